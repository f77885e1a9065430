import Derived.Test.YtnndcpncmmcaaaaGreatQAmLib
import Derived.Test.YtnndcpncmmcaaaaGreatQFExactRunOk2
import Derived.Deep.LoopGhost
import Derived.Lib.SliceRun
import Derived.Lib.Walk
import Derived.Shelf.RegionOpenPlain
import Derived.WalkKit
import Derived.Test.YtnndcpncmmcaaaaGreatQSort
namespace AM
open Go Go.Proofs.Tryz Go.IntKind
set_option linter.unusedVariables false
set_option linter.unusedSimpArgs false
set_option maxRecDepth 100000
set_option maxHeartbeats 2000000
noncomputable section
def WX:=bE (α:=bj×bf) (qC (qA .bI) (q1 (qA .eP))) [.ro,.ro] (fun _=>[]) (fun(a,f)=>⟨[dO (iG a f)],[],[]⟩)
def B9(a:bj)(f:bf):Int×T9×T2×Unit->Prop:=fun(i,b,c,_)=>b=(a.Kind,a.N,a.fg,a.At,())/\c=(f.Kind,f.ak,())/\0<=i/\i<=a.At.length/\∀j:Nat,(j:Int)<i->qe a f j=true
def Be(a:bj)(f:bf):Int×T9×T2×Unit->Nat:=fun(i,b,c,_)=>a.At.length-i.toNat
def akQ:AX WX:=fun(a,f)=>bq [(4,az [iI 23,.box 2 (2,1024) [.lit .str,.lit (.int .i64),.shr .bC,.shr .int],.box 3 (3,1024) [.lit .str,.shr .bC]] (fun _=>B9 a f) (Be a f))]
def aiS:HH:=hF WX func202 [] akQ fun x hp hb=>by
 obtain⟨a,f⟩:=x
 have aG:=nv (x:=a) (hb _ m0)
 have jg:=aG.1
 have pU:=aG.2.1
 have AF:=aG.2.2
 have cr:=jM (x:=f) (hb _ m1)
 have lz:=cr.1
 have iL:=cr.2
 clear hp hb
 apply vE (let q0:=Lb false (iG a f);bif !f.Kind.toList==a.Kind.toList then q0 else bif (f.ak.length:Int) !=a.N then q0 else B9 a f (0,(a.Kind,a.N,a.fg,a.At,()),(f.Kind,f.ak,()),())/\∀(y:Int×T18×J8×PUnit),let x1:=y.2.1.2.2.1.getD y.1.toNat fL;let x3:=y.2.2.1.2.1.length;let x5:=y.2.1.2.2.1.length;let x6:=a.At.getD y.1.toNat 0;let x0:=y.2.2.1.2.1.getD x6.toNat fL;let x2:=(↑x3:Int);let x4:=(↑x5:Int);let q1:=(wrap i64 (y.1+1),(y.2.1.1,y.2.1.2.1,y.2.1.2.2.1,y.2.1.2.2.2.1,()),(y.2.2.1.1,y.2.2.1.2.1,()),());B9 a f y->bif decide (y.1<(a.At.length:Int)) then 0<=y.1/\y.1.toNat<a.At.length/\bif decide (x6<0) then q0 else bif decide (x6≥x2) then q0 else bif decide (y.1≥x4) then q0 else 0<=x6/\x6.toNat<x3/\0<=y.1/\y.1.toNat<x5/\bif !(x0.K==x1.K&&(x0.N==x1.N&&(x0.S.toList==x1.S.toList&&true))) then q0 else B9 a f q1/\Be a f q1<Be a f y else Lb true (iG a f))
 dsimp only
 refine Gn (fun hk=>aQ (by unfold iG;rw[decide_eq_false hk];rfl)) (fun hk=>k_ (fun hn=>aQ (by unfold iG;rw[decide_eq_false hn,qq,mD])) (fun hn=>⟨⟨rfl,rfl,by omega,by omega,fun j hj=>by omega⟩,?_⟩))
 rintro⟨i,⟨a1,a2,a3,a4,⟨⟩⟩,⟨b1,b2,⟨⟩⟩,⟨⟩⟩ ⟨ha,hb,h1,h2,hR⟩
 cases ha
 cases hb
 simp only
 refine aE (fun hc=>⟨h1,by omega,?_⟩) (fun hc=> ?_)
 ·have hi:i.toNat<a.At.length:=by omega
  refine aE (fun g=>aQ (oN hi (qH (fun e=>by omega)))) (fun g1=>aE (fun g=>aQ (oN hi (qH (fun e=>by omega)))) (fun g2=>aE (fun g=>aQ (oN hi (qH (fun e=>by omega)))) (fun g3=>⟨by omega,by omega,h1,by omega,Gm (fun g=>aQ (oN hi (E0 g))) (fun g=> ?_)⟩)))
  rw[wi (n:=i+1)]
  exact⟨⟨rfl,rfl,by omega,by omega,cu h1 hR (vB ⟨by omega,by omega,by omega⟩ g)⟩,by simp only[Be];omega⟩
 ·refine jN ?_
  unfold iG
  rw[decide_eq_true hk,decide_eq_true hn,cR (fun j hj=>hR j (by omega))];rfl
def W_:=bE (α:=bj×bf) (qC (qA .bI) (q1 (qA .eP))) [.ro,.ro] (fun _=>[]) (fun(a,f)=>⟨[dO (iG a f)],[],[]⟩)
def Ci(a:bj)(f:bf):Int×T9×T2×Unit->Prop:=fun(i,b,c,_)=>b=(a.Kind,a.N,a.fg,a.At,())/\c=(f.Kind,f.ak,())/\0<=i/\i<=a.At.length/\∀j:Nat,(j:Int)<i->qe a f j=true
def Bq(a:bj)(f:bf):Int×T9×T2×Unit->Nat:=fun(i,b,c,_)=>a.At.length-i.toNat
def ak4:AX W_:=fun(a,f)=>bq [(4,az [iI 5,.box 2 (2,1024) [.lit .str,.lit (.int .i64),.shr .bC,.shr .int],.box 3 (3,1024) [.lit .str,.shr .bC]] (fun _=>Ci a f) (Bq a f))]
def ajd:HH:=hF W_ func168 [tU] ak4 fun x hp hb=>by
 obtain⟨a,f⟩:=x
 have aG:=nv (x:=a) (hb _ m0)
 have jg:=aG.1
 have pU:=aG.2.1
 have AF:=aG.2.2
 have cr:=jM (x:=f) (hb _ m1)
 have lz:=cr.1
 have iL:=cr.2
 clear hp hb
 apply vE (let q0:=Lb false (iG a f);bif !a.Kind.toList==f.Kind.toList then q0 else bif a.N !=(f.ak.length:Int) then q0 else Ci a f (0,(a.Kind,a.N,a.fg,a.At,()),(f.Kind,f.ak,()),())/\∀(y:Int×T18×J8×PUnit),let x1:=y.2.1.2.2.2.1.getD y.1.toNat 0;let x2:=y.2.1.2.2.1.getD y.1.toNat fL;let x3:=y.2.2.1.2.1.length;let x6:=y.2.1.2.2.2.1.length;let x7:=y.2.1.2.2.1.length;let x0:=y.2.2.1.2.1.getD x1.toNat fL;let x4:=(↑x6:Int);let x5:=(↑x7:Int);let q1:=(wrap i64 (y.1+1),(y.2.1.1,y.2.1.2.1,y.2.1.2.2.1,y.2.1.2.2.2.1,()),(y.2.2.1.1,y.2.2.1.2.1,()),());Ci a f y->bif decide (y.1<x4) then 0<=y.1/\y.1.toNat<x6/\bif decide (y.1≥x5) then q0 else bif !decide (0<=x1/\x1<=wrap i64 ((↑x3:Int)-1)) then q0 else 0<=x1/\x1.toNat<x3/\0<=y.1/\y.1.toNat<x7/\bif !(x0.K==x2.K&&(x0.N==x2.N&&(x0.S.toList==x2.S.toList&&true))) then q0 else Ci a f q1/\Bq a f q1<Bq a f y else Lb true (iG a f))
 dsimp only
 refine Gn (fun hk=>aQ (by unfold iG;rw[decide_eq_false (fun e=>hk e.symm)];rfl)) (fun hk=>k_ (fun hn=>aQ (by unfold iG;rw[decide_eq_false (p:=(f.ak.length:Int)=a.N) (fun e=>hn e.symm),qq,mD])) (fun hn=>⟨⟨rfl,rfl,by omega,by omega,fun j hj=>by omega⟩,?_⟩))
 rintro⟨i,⟨a1,a2,a3,a4,⟨⟩⟩,⟨b1,b2,⟨⟩⟩,⟨⟩⟩ ⟨ha,hb,h1,h2,hR⟩
 cases ha
 cases hb
 simp only
 refine aE (fun hc=>⟨h1,by omega,?_⟩) (fun hc=> ?_)
 ·have hi:i.toNat<a.At.length:=by omega
  rw[wi (n:=(f.ak.length:Int)-1)]
  refine aE (fun g=>aQ (oN hi (qH (fun e=>by omega)))) (fun g1=>bT (fun g=>aQ (oN hi (qH (fun e=>(yF g) (by omega))))) (fun g=> ?_))
  have g:=yT g
  refine⟨by omega,by omega,h1,by omega,Gm (fun g=>aQ (oN hi (E0 g))) (fun g'=> ?_)⟩
  rw[wi (n:=i+1)]
  exact⟨⟨rfl,rfl,by omega,by omega,cu h1 hR (vB ⟨by omega,by omega,by omega⟩ g')⟩,by simp only[Bq];omega⟩
 ·refine jN ?_
  unfold iG
  rw[decide_eq_true hk.symm,decide_eq_true hn.symm,cR (fun j hj=>hR j (by omega))];rfl
def GL(d:bY)(n:dE)(al:List b7)(s:ap)(id:Int)(i:Nat):bh:=⟨cB (d.af.getD i aP) false,cB (d.af.getD i aP) true,n.aC.getD i b_,al,s,id⟩
def c_(f:bf)(id:Int)(al:List b7)(na:List bj):List b7:=List.zipWith (fun a x=>if iG x f=true then⟨a.L++[id]⟩ else a) al na
def zo(g:bh)(l:List aq):List aq:=l.set (l.length-1) ⟨(l.getD (l.length-1) aB).bi.map (qn g 1)⟩
def EH(d:bY)(n:dE)(al:List b7)(s:ap)(id:Int):Nat->List dR->List dR
 |_,[]=>[]
 |i,r::rs=>⟨pk (GL d n al s id i) 0 (zo (GL d n al s id i) r.ao) [] []⟩::EH d n al s id (i+1) rs
def G0(d:bY)(n:dE)(m:df)(s:ap)(id:Int):df:=⟨c_ (ax s.aa id) id m.ab n.ab,EH d n (c_ (ax s.aa id) id m.ab n.ab) s id 0 m.af⟩
def If(d:bY)(n:dE)(al:List b7)(s:ap)(id:Int)(i:Nat)(r:dR):Prop:=i<d.af.length/\i<n.aC.length/\(d.af.getD i aP).ai.length<=4294967295/\cz (d.af.getD i aP).ai<=2147483647/\0<r.ao.length/\
 oH (GL d n al s id i).bH.length (GL d n al s id i).ey.length (r.ao.getD (r.ao.length-1) aB).bi/\ql (GL d n al s id i) 0 (zo (GL d n al s id i) r.ao) [] []
theorem tQ(d:bY)(n:dE)(al:List b7)(s:ap)(id:Int):∀(l:List dR)(i:Nat),(EH d n al s id i l).length=l.length
 |[],_=>rfl
 |_::l,i=>congrArg (·+1) (tQ d n al s id l (i+1))
theorem xD(d:bY)(n:dE)(al:List b7)(s:ap)(id:Int):∀(l:List dR)(i k:Nat),k<l.length->(EH d n al s id i l).getD k bt=⟨pk (GL d n al s id (i+k)) 0 (zo (GL d n al s id (i+k)) (l.getD k bt).ao) [] []⟩
 |[],_,_,h=>absurd h (Nat.not_lt_zero _)
 |_::l,i,0,_=>rfl
 |_::l,i,k+1,h=>by
  have:=xD d n al s id l (i+1) k (Nat.lt_of_succ_lt_succ h)
  rw[show i+1+k=i+(k+1) by omega] at this
  exact this
theorem aeo{α:Type}{A B:List α}{k:Nat}(z:α)(h:A.length=B.length)(hk:k<B.length):(A.take k++B.drop k).getD k z=B.getD k z/\(A.take k++B.drop k).set k (A.getD k z)=A.take (k+1)++B.drop (k+1)/\(A.take k++B.drop k).length=B.length:=by
 have hl:(A.take k).length=k:=by rw[mO];omega
 refine⟨?_,?_,?_⟩
 ·rw[gh,va (by omega),hl,Rr,vo z hk];rfl
 ·rw[nL z (by omega),vo z hk,List.set_append_right _ _ (by omega),hl,Rr]
  simp
 ·rw[kF,hl,FT];omega
theorem sa(q:bc->Bool):∀(l:List bc),cz (l.filter q)<=cz l
 |[]=>og _
 |p::l=>by
  have:=sa q l
  have e:cz (p::l)=p.aA.length+cz l:=rfl
  rw[List.filter_cons]
  split
  ·have e2:cz (p::l.filter q)=p.aA.length+cz (l.filter q):=rfl
   omega
  ·omega
theorem Dv(g:bh):∀(l:List aq)(i:Nat)(b f:List au),ql g i l b f->l=[]\/i+l.length<=g.bH.length
 |[],_,_,_,_=> .inl rfl
 |v::l,i,b,f,h=>by
  rcases Dv g l (i+1) _ _ h.2.2.2.2.2.2.2 with e|e
  ·subst e;exact .inr h.1
  ·refine .inr ?_
   rw[iD];omega
def Xm:=bE (α:=bY×dE×df×ap×Int) (qC (qA .jc) (qC (qA .mK) (qC (qA .jU) (qC (qA .dW) (q1 qI))))) [.ro,.ro,.wr,.ro,.ro] (fun(d,n,m,s,id)=>[aj s.aa<=4294967295,n.ab.length=m.ab.length,∀a∈m.ab,a.L.length+1<=4294967295,∀i:Nat,i<m.af.length->If d n (c_ (ax s.aa id) id m.ab n.ab) s id i (m.af.getD i bt)]) (fun(d,n,m,s,id)=>⟨[],[],[dA .jU (G0 d n m s id)]⟩)
def yp(d:bY)(n:dE)(m:df)(s:ap)(id:Int):Int×T7×T1×T3×T5×T2×Unit->Prop:=fun(i,b,c,q,e,g,_)=>b=(d.Name,d.af,())/\c=(n.ab,n.aC,())/\e=(s.aa,s.Next,())/\g=((ax s.aa id).Kind,(ax s.aa id).ak,())/\0<=i/\i<=n.ab.length/\q.2.1=m.af/\q.1=c_ (ax s.aa id) id (m.ab.take i.toNat) (n.ab.take i.toNat)++m.ab.drop i.toNat
def sA(d:bY)(n:dE)(m:df)(s:ap)(id:Int):Int×T7×T1×T3×T5×T2×Unit->Nat:=fun(i,b,c,q,e,g,_)=>n.ab.length-i.toNat
def Cm(d:bY)(n:dE)(m:df)(s:ap)(id:Int):Int×Unit×T7×T1×T3×T5×T2×Unit->Prop:=fun(i,_,b,c,q,e,g,_)=>b=(d.Name,d.af,())/\c=(n.ab,n.aC,())/\e=(s.aa,s.Next,())/\g=((ax s.aa id).Kind,(ax s.aa id).ak,())/\0<=i/\i<=m.af.length/\q.1=c_ (ax s.aa id) id m.ab n.ab/\q.2.1.length=m.af.length/\q.2.1=(EH d n (c_ (ax s.aa id) id m.ab n.ab) s id 0 m.af).take i.toNat++m.af.drop i.toNat
def Bu(d:bY)(n:dE)(m:df)(s:ap)(id:Int):Int×Unit×T7×T1×T3×T5×T2×Unit->Nat:=fun(i,_,b,c,q,e,g,_)=>m.af.length-i.toNat
def alf:AX Xm:=fun(d,n,m,s,id)=>bq [(3,az [iI 26,.box 5 (5,1024) [.lit .str,.shr .cw],.box 6 (6,1024) [.shr .bI,.shr .ci],.box 7 (7,1024) [.Et (2000002,0) .cD,.Et (2000002,1) .di],.box 8 (8,1024) [.shr .cg,.lit (.int .i64)],.box 10 (10,1024) [.lit .str,.own .bC true]] (fun _=>yp d n m s id) (sA d n m s id)),(9,az [iI 52,.slot 50 (2000002,1) .al,.box 5 (5,1024) [.lit .str,.shr .cw],.box 6 (6,1024) [.shr .bI,.shr .ci],.box 7 (7,1024) [.Et (2000002,0) .cD,.Et (2000002,1) .di],.box 8 (8,1024) [.shr .cg,.lit (.int .i64)],.box 10 (10,1024) [.lit .str,.own .bC true]] (fun _=>Cm d n m s id) (Bu d n m s id))]
def ajC:HH:=hF Xm func137 [MD,aiS,aiR,aiQ] alf fun x hp hb=>by
 obtain⟨d,n,m,s,id⟩:=x
 have aG:=gO (x:=d) (hb _ m0)
 have fj:=aG.1
 have ez:=aG.2
 have cr:=uN (x:=n) (hb _ m1)
 have iK:=cr.1
 have iJ:=cr.2
 have sW:=p6 (x:=m) (hb _ m2)
 have nU:=sW.1
 have pb:=sW.2
 have eR:=eG (x:=s) (hb _ m3)
 have E8:=mL (n:=id) (hb _ m4)
 have bP:aj s.aa<=4294967295:=hp _ m0
 have jv:n.ab.length=m.ab.length:=hp _ m1
 have uZ:∀a∈m.ab,a.L.length+1<=4294967295:=hp _ m2
 have AD:∀i:Nat,i<m.af.length->If d n (c_ (ax s.aa id) id m.ab n.ab) s id i (m.af.getD i bt):=hp _ m3
 clear hp hb
 apply vE (let q0:=List bj×List bm×PUnit;L4 (aj s.aa)/\yp d n m s id (0,(d.Name,d.af,()),(n.ab,n.aC,()),(m.ab,m.af,()),(s.aa,s.Next,()),((ax s.aa id).Kind,(ax s.aa id).ak,()),())/\∀(y:Int×JT×q0×Oi×Lh×J8×PUnit),let x0:=(y.2.2.2.1.1.getD y.1.toNat cS).L;let x1:=(y.2.2.2.1.2.1.length:Int);yp d n m s id y->bif decide (y.1<(n.ab.length:Int)) then 0<=y.1/\y.1.toNat<n.ab.length/\bif iG (n.ab.getD y.1.toNat hJ) {Kind:=y.2.2.2.2.2.1.1,ak:=y.2.2.2.2.2.1.2.1:bf} then 0<=y.1/\y.1.toNat<y.2.2.2.1.1.length/\y.1.toNat<y.2.2.2.1.1.length/\x0.length+List.length [id]<=4294967296/\0<=y.1/\y.1.toNat<y.2.2.2.1.1.length/\y.1.toNat=y.1.toNat/\yp d n m s id (wrap i64 (y.1+1),y.2.1,y.2.2.1,(y.2.2.2.1.1.set y.1.toNat {L:=x0++[id]:b7},y.2.2.2.1.2),y.2.2.2.2)/\sA d n m s id (wrap i64 (y.1+1),y.2.1,y.2.2.1,(y.2.2.2.1.1.set y.1.toNat {L:=x0++[id]:b7},y.2.2.2.1.2),y.2.2.2.2)<sA d n m s id y else yp d n m s id (wrap i64 (y.1+1),y.2)/\sA d n m s id (wrap i64 (y.1+1),y.2)<sA d n m s id y else Cm d n m s id (0,(),y.2)/\∀(y:Int×PUnit×JT×q0×Oi×Lh×J8×PUnit),let x5:=(y.2.2.2.2.1.2.1.getD y.1.toNat bt).ao;let x8:=(y.2.2.1.2.1.getD y.1.toNat aP).ai;let x9:=wrap i64 ((x5.length:Int)-1);let x4:=x9.toNat;let x6:=x8.filter (fun(p:bc)=>p.Not==false);let x7:=x8.filter (fun(p:bc)=>p.Not==true);let x2:={bH:=x6,ey:=x7,chain:=y.2.2.2.1.2.1.getD y.1.toNat b_,mem:=y.2.2.2.2.1.1,s:={aa:=y.2.2.2.2.2.1.1,Next:=y.2.2.2.2.2.1.2.1:ap},id:=id:bh};let x3:=x5.modify x4 fun(x:aq)=>{bi:=(x5.getD x4 aB).bi.map (qn x2 1):aq};let q1:=(wrap i64 (y.1+1),(),y.2.2.1,y.2.2.2.1,(y.2.2.2.2.1.1,y.2.2.2.2.1.2.1.set y.1.toNat {ao:=pk x2 0 x3 [] []:dR},()),y.2.2.2.2.2);Cm d n m s id y->bif decide (y.1<x1) then 0<=y.1/\y.1.toNat<y.2.2.2.2.1.2.1.length/\y.1.toNat<y.2.2.2.2.1.2.1.length/\0<=y.1/\y.1<(y.2.2.1.2.1.length:Int)/\y.1<(y.2.2.2.1.2.1.length:Int)/\x8.length<=4294967295/\0<=x9/\x4<x5.length/\x4<x5.length/\x4<x5.length/\aj y.2.2.2.2.2.1.1<=4294967295/\cz x6<=2147483647/\cz x7<=2147483647/\oH (x6.length) (x7.length) (x5.getD x4 aB).bi/\aj y.2.2.2.2.2.1.1<=4294967295/\cz x6<=2147483647/\cz x7<=2147483647/\x6.length<=4294967295/\x7.length<=4294967295/\ql x2 0 x3 [] []/\Cm d n m s id q1/\Bu d n m s id q1<Bu d n m s id y else AQ []=AQ []/\AQ [DV.agg [CL .cD y.2.2.2.2.1.1,CL .di y.2.2.2.2.1.2.1]]=AQ [DV.agg [CL .cD (G0 d n m s id).ab,CL .di (G0 d n m s id).af]])
 dsimp only
 refine⟨by omega,⟨rfl,rfl,rfl,rfl,by omega,by omega,rfl,by simp[c_]⟩,?_⟩
 rintro⟨i,⟨b1,b2,⟨⟩⟩,⟨c1,c2,⟨⟩⟩,⟨al,rs,⟨⟩⟩,⟨e1,e2,⟨⟩⟩,⟨f1,f2,⟨⟩⟩,⟨⟩⟩ ⟨hb,hc,he,hf,h1,h2,h3,h4⟩
 cases hb
 cases hc
 cases he
 cases hf
 replace h3:rs=m.af:=h3
 subst h3
 replace h4:al=c_ (ax s.aa id) id (m.ab.take i.toNat) (n.ab.take i.toNat)++m.ab.drop i.toNat:=h4
 simp only
 have hF:(⟨(ax s.aa id).Kind,(ax s.aa id).ak⟩:bf)=ax s.aa id:=rfl
 refine aE ?_ ?_<;>intro hc
 ·have hi:i.toNat<m.ab.length:=by omega
  obtain⟨z1,z2,z3⟩:=Om (fun(a:b7) x=>if iG x (ax s.aa id)=true then⟨a.L++[id]⟩ else a) (H:=m.ab) (h:=n.ab) (k:=i.toNat) cS hJ hi (by omega)
  have zT:al.length=m.ab.length:=by rw[h4];exact z3
  have J7:al.getD i.toNat cS=m.ab.getD i.toNat cS:=by rw[h4];exact z2
  have mS:=uZ _ (getDM cS hi)
  rw[wi (n:=i+1)]
  refine⟨h1,by omega,?_⟩
  rw[hF]
  refine ae ?_ ?_<;>intro q
  ·refine⟨h1,by omega,by omega,?_,h1,by omega,trivial,⟨rfl,rfl,rfl,rfl,by omega,by omega,rfl,?_⟩,by simp only[sA];omega⟩
   ·rw[J7];simp only[iD,ii];omega
   ·show al.set i.toNat ⟨(al.getD i.toNat cS).L++[id]⟩=_
    rw[J7,h4,show(i+1).toNat=i.toNat+1 by omega]
    unfold c_
    rw[z1,if_pos q]
  ·refine⟨⟨rfl,rfl,rfl,rfl,by omega,by omega,rfl,?_⟩,by simp only[sA];omega⟩
   show al=_
   rw[show(i+1).toNat=i.toNat+1 by omega]
   unfold c_ at h4⊢
   rw[z1,if_neg (by rw[q];exact Bool.false_ne_true),<-z2,<-h4]
   exact(pM cS).symm
 ·have e:=CB (fun(a:b7) x=>if iG x (ax s.aa id)=true then⟨a.L++[id]⟩ else a) (H:=m.ab) (h:=n.ab) (k:=i.toNat) (by omega) (by omega)
  replace h4:al=c_ (ax s.aa id) id m.ab n.ab:=h4.trans e
  subst h4
  refine⟨⟨rfl,rfl,rfl,rfl,by omega,by omega,rfl,rfl,by simp⟩,?_⟩
  clear e
  rintro⟨i',⟨⟩,⟨b1,b2,⟨⟩⟩,⟨c1,c2,⟨⟩⟩,⟨al,rs,⟨⟩⟩,⟨e1,e2,⟨⟩⟩,⟨f1,f2,⟨⟩⟩,⟨⟩⟩ ⟨hb,jr,he,hf,k1,k2,k3,k4,k5⟩
  cases hb
  cases jr
  cases he
  cases hf
  replace k3:al=c_ (ax s.aa id) id m.ab n.ab:=k3
  subst k3
  replace k4:rs.length=m.af.length:=k4
  replace k5:rs=(EH d n (c_ (ax s.aa id) id m.ab n.ab) s id 0 m.af).take i'.toNat++m.af.drop i'.toNat:=k5
  simp only
  refine aE ?_ ?_<;>intro hk
  ·have hi:i'.toNat<m.af.length:=by omega
   obtain⟨q1,q2,q3⟩:=aeo (A:=EH d n (c_ (ax s.aa id) id m.ab n.ab) s id 0 m.af) (B:=m.af) bt (tQ _ _ _ _ _ _ _) hi
   rw[<-k5] at q1 q2
   rw[xD _ _ _ _ _ _ _ _ hi,oz] at q2
   have hr:=AD i'.toNat hi
   rw[<-q1] at hr q2
   obtain⟨r1,r2,r3,r4,r5,r6,r7⟩:=hr
   have Dn:=Dv _ _ _ _ _ r7
   have a1:=sa (fun(p:bc)=>p.Not==true) (d.af.getD i'.toNat aP).ai
   have a2:=sa (fun(p:bc)=>p.Not==false) (d.af.getD i'.toNat aP).ai
   have a3:=Lo (fun(p:bc)=>p.Not==true) (d.af.getD i'.toNat aP).ai
   have a4:=Lo (fun(p:bc)=>p.Not==false) (d.af.getD i'.toNat aP).ai
   have fa:(zo (GL d n (c_ (ax s.aa id) id m.ab n.ab) s id i'.toNat) (rs.getD i'.toNat bt).ao).length=(rs.getD i'.toNat bt).ao.length:=zF
   have wm:(rs.getD i'.toNat bt).ao.length<=4294967295:=by
    rcases Dn with e|e
    ·rw[e] at fa;simp only[ii] at fa;omega
    ·have:(GL d n (c_ (ax s.aa id) id m.ab n.ab) s id i'.toNat).bH.length<=4294967295:=En a4 r3
     omega
   have hx9:IntKind.wrap .i64 (((rs.getD i'.toNat bt).ao.length:Int)-1)=((rs.getD i'.toNat bt).ao.length:Int)-1:=wi
   have hx4:(((rs.getD i'.toNat bt).ao.length:Int)-1).toNat=(rs.getD i'.toNat bt).ao.length-1:=by omega
   have TH:(rs.getD i'.toNat bt).ao.modify ((rs.getD i'.toNat bt).ao.length-1) (fun x:aq=>(⟨((rs.getD i'.toNat bt).ao.getD ((rs.getD i'.toNat bt).ao.length-1) aB).bi.map (qn (GL d n (c_ (ax s.aa id) id m.ab n.ab) s id i'.toNat) 1)⟩:aq))=zo (GL d n (c_ (ax s.aa id) id m.ab n.ab) s id i'.toNat) (rs.getD i'.toNat bt).ao:=S0 aB _
   rw[wi (n:=i'+1),hx9,hx4]
   refine⟨k1,by omega,by omega,k1,by omega,by omega,r3,by omega,by omega,by omega,by omega,bP,by omega,by omega,r6,bP,by omega,by omega,by omega,by omega,?_,⟨rfl,rfl,rfl,rfl,by omega,by omega,rfl,by rw[zF];exact k4,?_⟩,by simp only[Bu];omega⟩
   ·exact TH▸r7
   ·show rs.set i'.toNat _=_
    rw[show(i'+1).toNat=i'.toNat+1 by omega,<-q2,<-TH]
    rfl
  ·refine⟨trivial,?_⟩
   have e:rs=EH d n (c_ (ax s.aa id) id m.ab n.ab) s id 0 m.af:=by
    rw[k5,List.drop_eq_nil_of_le (by omega),sI,EM (by rw[tQ];omega)]
   rw[e];rfl
def Xr:=bE (α:=(List Int)×(List Int)) (qC (qL .int) (q1 (qL .int))) [.ro,.ro] (fun _=>[]) (fun(a,b)=>⟨[dO (decide (a=b))],[],[]⟩)
def yt(a:List Int)(b:List Int):Int×Unit->Prop:=fun(i,_)=>0<=i/\i<=a.length/\a.length=b.length/\(a.drop i.toNat=b.drop i.toNat↔a=b)
def Bz(a:List Int)(b:List Int):Int×Unit->Nat:=fun(i,_)=>a.length-i.toNat
def alk:AX Xr:=fun(a,b)=>bq [(4,az [iI 13] (fun _=>yt a b) (Bz a b))]
def XU:HH:=hF Xr func130 [] alk fun x hp hb=>by
 obtain⟨a,b⟩:=x
 have cJ:L9 a.length:=eD (hb _ m0)
 have nj:L9 b.length:=eD (hb _ m1)
 clear hp hb
 apply vE (bif (a.length:Int) !=(b.length:Int) then Lb false (decide (a=b)) else yt a b (0,())/\∀(y:Int×PUnit),let q0:=(wrap i64 (y.1+1),());yt a b y->bif decide (y.1<(a.length:Int)) then 0<=y.1/\y.1.toNat<a.length/\0<=y.1/\y.1.toNat<b.length/\bif a.getD y.1.toNat 0 !=b.getD y.1.toNat 0 then Lb false (decide (a=b)) else yt a b q0/\Bz a b q0<Bz a b y else Lb true (decide (a=b)))
 dsimp only
 refine ae (fun h=>ju ?_) (fun h=>⟨?_,?_⟩)
 ·rintro rfl;simp at h
 ·simp[yt] at*;omega
 rintro⟨i,⟨⟩⟩ ⟨h1,h2,h3,hR⟩
 simp only at*
 refine ae ?_ ?_<;>intro hc
 ·have hc:i<a.length:=by simpa using hc
  rw[cj a (0:Int) h1 hc,cj b (0:Int) h1 (by omega)] at hR
  rw[wi]
  skip
  refine⟨by omega,by omega,by omega,by omega,ae (fun h=>ju ?_) (fun h=>⟨⟨by omega,by omega,h3,?_⟩,?_⟩)⟩
  ·rw[<-hR];simp at h;simp[h]
  ·rw[<-hR];simp at h;simp[h]
  ·simp only[Bz];omega
 ·have hc:a.length<=i:=by simpa using hc
  rw[bU a hc,bU b (by omega)] at hR
  exact lQ (hR.1 rfl)
theorem ae6{α:Type}{a b:List α}(z:α){i:Int}(h1:0<=i)(ha:i<a.length)(hb:i<b.length)(hR:a.drop i.toNat=b.drop i.toNat↔a=b)(h:a.getD i.toNat z≠b.getD i.toNat z):a≠b:=by
 rw[cj a z h1 ha,cj b z h1 hb] at hR
 exact fun e=>h (List.cons.inj (hR.2 e)).1
theorem ae7{α:Type}{a b:List α}(z:α){i:Int}(h1:0<=i)(ha:i<a.length)(hb:i<b.length)(hR:a.drop i.toNat=b.drop i.toNat↔a=b)(h:a.getD i.toNat z=b.getD i.toNat z):(a.drop (i+1).toNat=b.drop (i+1).toNat↔a=b):=by
 rw[cj a z h1 ha,cj b z h1 hb,h] at hR
 rw[<-hR];simp
theorem abl{α:Type}{a b:List α}{i:Int}(ha:a.length<=i)(hb:b.length<=i)(hR:a.drop i.toNat=b.drop i.toNat↔a=b):a=b:=by
 rw[bU a ha,bU b hb] at hR
 exact hR.1 rfl
theorem aam{α:Type}{a b:List α}(h:((a.length:Int) !=(b.length:Int))=false):a.length=b.length:=by
 have h:(a.length:Int)=b.length:=by simpa using h
 omega
theorem aai{α:Type}{a b:List α}(h:¬(a.length:Int)=b.length):a≠b:=fun e=>h (by rw[e])
def af3:=bE (α:=(List Int)×(List Int)) (qC (qL .int) (q1 (qL .int))) [.ro,.ro] (fun _=>[]) (fun(a,b)=>⟨[dO (decide (a=b))],[],[]⟩)
def Hz(a:List Int)(b:List Int):Int×Unit->Prop:=fun(i,_)=>0<=i/\i<=a.length/\a.length=b.length/\(a.drop i.toNat=b.drop i.toNat↔a=b)
def G_(a:List Int)(b:List Int):Int×Unit->Nat:=fun(i,_)=>a.length-i.toNat
def asq:AX af3:=fun(a,b)=>bq [(4,az [iI 5] (fun _=>Hz a b) (G_ a b))]
def ack:HH:=hF af3 func46 [] asq fun x hp hb=>by
 obtain⟨a,b⟩:=x
 have cJ:L9 a.length:=eD (hb _ m0)
 have nj:L9 b.length:=eD (hb _ m1)
 clear hp hb
 apply vE (bif (a.length:Int) !=(b.length:Int) then Lb false (decide (a=b)) else Hz a b (0,())/\∀(y:Int×PUnit),let q0:=(wrap i64 (y.1+1),());Hz a b y->bif decide (y.1<(a.length:Int)) then 0<=y.1/\y.1.toNat<a.length/\0<=y.1/\y.1.toNat<b.length/\bif a.getD y.1.toNat 0 !=b.getD y.1.toNat 0 then Lb false (decide (a=b)) else Hz a b q0/\G_ a b q0<G_ a b y else Lb true (decide (a=b)))
 dsimp only
 refine ae (fun h=>ju (aai (by simpa using h))) (fun h=>⟨⟨by omega,by omega,(aam (a:=a) (b:=b) (by assumption)),by simp⟩,?_⟩)
 rintro⟨i,⟨⟩⟩ ⟨h1,h2,h3,hR⟩
 simp only
 refine ae ?_ ?_<;>intro hc
 ·have hc:i<a.length:=yT hc
  rw[wi]
  try simp only[oq]
  try simp only[bZ]
  have hz:True:=trivial
  repeat' (first|refine And.intro (by omega) ?_|refine ae (fun h=> ?_) (fun h=> ?_))
  all_goals first|exact ju (ae6 (0:Int) h1 hc (by omega) hR (by first|grind|(rw[hz];grind)))|exact⟨⟨by omega,by omega,h3,ae7 (0:Int) h1 hc (by omega) hR (by first|grind|(rw[hz];grind))⟩,by simp only[G_];omega⟩
 ·have hc:a.length<=i:=by have:=yF hc;omega
  exact lQ (abl hc (by omega) hR)
theorem I4(x y:bj):x=y↔x.Kind=y.Kind/\x.N=y.N/\x.fg=y.fg/\x.At=y.At:=by cases x;cases y;simp[bj.mk.injEq]
def kP(l:List dn):List cV:=(l.filter fun a=>decide (a.K=2)).map fun a=>a.V
def vW(l:List dn)(n:Nat):List Int:=((List.range n).filter fun i=>decide ((l.getD i gi).K=2)).map fun(i:Nat)=>(i:Int)
def cb(p:bc):bj:=⟨p.Kind,p.aA.length,kP p.aA,vW p.aA p.aA.length⟩
theorem DQ(l:List dn):(kP l).length<=l.length:=by
 unfold kP;rw[wj];exact Lo _ _
theorem Mp(l:List dn)(n:Nat):(vW l n).length<=n:=by
 unfold vW;rw[wj]
 exact En (Lo _ _) (by simp)
theorem tJ{l:List dn}{i:Int}(h0:0<=i)(h:i<l.length):kP (l.take (i+1).toNat)=kP (l.take i.toNat)++(if(l.getD i.toNat gi).K=2 then[(l.getD i.toNat gi).V] else[]):=by
 have e:(i+1).toNat=i.toNat+1:=by omega
 have hn:i.toNat<l.length:=by omega
 have hg:l[i.toNat]=l.getD i.toNat gi:=by rw[gh,gr hn];rfl
 unfold kP
 rw[e,zcz hn,List.filter_append,Em,hg]
 generalize List.getD l i.toNat gi=x
 by_cases hk:x.K=2<;>simp[hk]
theorem DW{l:List dn}{i:Int}(h0:0<=i):vW l (i+1).toNat=vW l i.toNat++(if(l.getD i.toNat gi).K=2 then[i] else[]):=by
 have e:(i+1).toNat=i.toNat+1:=by omega
 unfold vW
 rw[e,List.range_succ,List.filter_append,Em]
 congr 1
 have e2:((i.toNat:Nat):Int)=i:=by omega
 by_cases hk:(l.getD i.toNat gi).K=2
 ·rw[if_pos hk,List.filter_cons_of_pos (by simpa using hk)];simp[e2]
 ·rw[if_neg hk,List.filter_cons_of_neg (by simpa using hk)];rfl
def VE(l:List bj)(a:bj):Int:=kj l.length (fun j=>decide (l.getD j hJ=a))
def oy(l:List bj)(a:bj):List bj:=if 0<=VE l a then l else l++[a]
def fv(l:List bj)(a:bj):Int:=if 0<=VE l a then VE l a else l.length
theorem zL{l:List bj}{a:bj}{i:Int}(h1:0<=i)(hc:i<l.length)(he:l.getD i.toNat hJ=a)(hR:∀j:Nat,(j:Int)<i->decide (l.getD j hJ=a)=false):fv l a=i/\oy l a=l:=by
 have h:VE l a=i:=by
  have:=gI (n:=l.length) (i:=i.toNat) (p:=fun j=>decide (l.getD j hJ=a)) (by omega) (by simpa using he) (fun j hj=>hR j (by omega))
  unfold VE;rw[this];omega
 unfold fv oy
 rw[h,if_pos h1,if_pos h1]
 exact⟨rfl,rfl⟩
theorem CW{l:List bj}{a:bj}(hR:∀j:Nat,j<l.length->decide (l.getD j hJ=a)=false):fv l a=l.length/\oy l a=l++[a]:=by
 have h:VE l a= -1:=je hR
 unfold fv oy
 rw[h,if_neg (by omega),if_neg (by omega)]
 exact⟨rfl,rfl⟩
theorem D5(l:List bj)(a:bj):l.length<=(oy l a).length/\(oy l a).length<=l.length+1:=by
 unfold oy;split<;>simp
def Wy:=bE (α:=bc) (q1 (qA .cq)) [.ro] (fun p=>[p.aA.length<=4294967295]) (fun p=>⟨[dA .bI (cb p)],[],[]⟩)
def xX(p:bc):Int×Oj×T9×T9×Unit->Prop:=fun(i,b,r,g,_)=>r=(a_,0,[],[],())/\b=(p.Kind,p.aA,p.Not,())/\0<=i/\i<=p.aA.length/\g=(p.Kind,(p.aA.length:Int),kP (p.aA.take i.toNat),vW p.aA i.toNat,())
def sh(p:bc):Int×Oj×T9×T9×Unit->Nat:=fun(i,b,r,g,_)=>p.aA.length-i.toNat
def akq:AX Wy:=fun p=>bq [(3,az [iI 15,.box 1 (1,1024) [.lit .str,.shr .ig,.lit .bool],.box 2 (2,1024) [.lit .str,.lit (.int .i64),.own .bC true,.own .int true],.box 3 (3,1024) [.lit .str,.lit (.int .i64),.own .bC true,.own .int true]] (fun _=>xX p) (sh p))]
def aik:HH:=hF Wy func249 [] akq fun(p:bc) hp hb=>by
 have aG:=nC (x:=p) (hb _ m0)
 have ng:=aG.1
 have ni:=aG.2
 have bP:p.aA.length<=4294967295:=hp _ m0
 clear hp hb
 apply vE (let x0:=(p.aA.length:Int);let q0:=BA×Int×List cV×List Int×PUnit;xX p (0,(p.Kind,p.aA,p.Not,()),({data:= #[]:BA},0,[],[],()),(p.Kind,x0,[],[],()),())/\∀(y:Int×T17×q0×q0×PUnit),let x1:=[(p.aA.getD y.1.toNat gi).V];let q1:=(wrap i64 (y.1+1),y.2.1,y.2.2.1,(y.2.2.2.1.1,y.2.2.2.1.2.1,y.2.2.2.1.2.2.1++x1,y.2.2.2.1.2.2.2.1++[y.1],()),());let q2:=(wrap i64 (y.1+1),y.2);xX p y->bif decide (y.1<x0) then 0<=y.1/\y.1.toNat<p.aA.length/\bif (p.aA.getD y.1.toNat gi).K==2 then L4 (y.2.2.2.1.2.2.1.length+x1.length)/\y.2.2.2.1.2.2.2.1.length+List.length [y.1]<=4294967296/\xX p q1/\sh p q1<sh p y else xX p q2/\sh p q2<sh p y else Lf [DV.agg [CS y.2.2.2.1.1,CI y.2.2.2.1.2.1,CL .bC y.2.2.2.1.2.2.1,CL .int y.2.2.2.1.2.2.2.1]] [DV.agg [CS ((cb p).Kind),CI ((cb p).N),CL .bC (cb p).fg,CL .int (cb p).At]])
 dsimp only
 refine⟨⟨rfl,rfl,by omega,by omega,rfl⟩,?_⟩
 rintro⟨i,⟨b1,b2,b3,⟨⟩⟩,⟨r1,r2,r3,r4,⟨⟩⟩,⟨g1,g2,g3,g4,⟨⟩⟩,⟨⟩⟩ ⟨hr,hb,h1,h2,hg⟩
 cases hb
 cases hr
 cases hg
 simp only
 refine aE ?_ ?_<;>intro hc
 ·have lh:=tJ h1 hc
  have has:=DW (l:=p.aA) h1
  have fa:=DQ (p.aA.take i.toNat)
  have zT:=Mp p.aA i.toNat
  rw[mO] at fa
  rw[wi (n:=i+1)]
  refine⟨by omega,by omega,mn (fun hk=> ?_) (fun hk=> ?_)⟩
  ·rw[if_pos hk] at lh has
   refine⟨by simp only[iD,ii];omega,by simp only[iD,ii];omega,⟨rfl,rfl,by omega,by omega,by rw[lh,has]⟩,by simp only[sh];omega⟩
  ·rw[if_neg hk,sI] at lh has
   exact⟨⟨rfl,rfl,by omega,by omega,by rw[lh,has]⟩,by simp only[sh];omega⟩
 ·have e:i.toNat=p.aA.length:=by omega
  rw[e,List.take_length]
  exact aO _
def afy:=bE (α:=bc) (q1 (qA .cq)) [.ro] (fun p=>[p.aA.length<=4294967295]) (fun p=>⟨[dA .bI (cb p)],[],[]⟩)
def D8(p:bc):Int×Oj×T9×T9×Unit->Prop:=fun(i,b,r,g,_)=>r=(a_,0,[],[],())/\b=(p.Kind,p.aA,p.Not,())/\0<=i/\i<=p.aA.length/\g=(p.Kind,(p.aA.length:Int),kP (p.aA.take i.toNat),vW p.aA i.toNat,())
def v7(p:bc):Int×Oj×T9×T9×Unit->Nat:=fun(i,b,r,g,_)=>p.aA.length-i.toNat
def arW:AX afy:=fun p=>bq [(3,az [iI 4,.box 1 (1,1024) [.lit .str,.shr .ig,.lit .bool],.box 2 (2,1024) [.lit .str,.lit (.int .i64),.own .bC true,.own .int true],.box 3 (3,1024) [.lit .str,.lit (.int .i64),.own .bC true,.own .int true]] (fun _=>D8 p) (v7 p))]
def aqG:HH:=hF afy func99 [] arW fun(p:bc) hp hb=>by
 have aG:=nC (x:=p) (hb _ m0)
 have ng:=aG.1
 have ni:=aG.2
 have bP:p.aA.length<=4294967295:=hp _ m0
 clear hp hb
 apply vE (let q0:=BA×Int×List cV×List Int×PUnit;D8 p (0,(p.Kind,p.aA,p.Not,()),({data:= #[]:BA},0,[],[],()),(p.Kind,(p.aA.length:Int),[],[],()),())/\∀(y:Int×T17×q0×q0×PUnit),let x1:=y.2.1.2.1.getD y.1.toNat gi;let x3:=y.2.1.2.1.length;let x0:=[x1.V];let x2:=(↑x3:Int);let q1:=(wrap i64 (y.1+1),y.2.1,y.2.2.1,(y.2.2.2.1.1,y.2.2.2.1.2.1,y.2.2.2.1.2.2.1++x0,y.2.2.2.1.2.2.2.1++[y.1],()),());let q2:=(wrap i64 (y.1+1),y.2);D8 p y->bif decide (y.1<x2) then 0<=y.1/\y.1.toNat<x3/\bif x1.K==2 then 0<=y.1/\y.1.toNat<x3/\L4 (y.2.2.2.1.2.2.1.length+x0.length)/\y.2.2.2.1.2.2.2.1.length+List.length [y.1]<=4294967296/\D8 p q1/\v7 p q1<v7 p y else D8 p q2/\v7 p q2<v7 p y else Lf [DV.agg [CS y.2.2.2.1.1,CI y.2.2.2.1.2.1,CL .bC y.2.2.2.1.2.2.1,CL .int y.2.2.2.1.2.2.2.1]] [DV.agg [CS ((cb p).Kind),CI ((cb p).N),CL .bC (cb p).fg,CL .int (cb p).At]])
 dsimp only
 refine⟨⟨rfl,rfl,by omega,by omega,rfl⟩,?_⟩
 rintro⟨i,⟨b1,b2,b3,⟨⟩⟩,⟨r1,r2,r3,r4,⟨⟩⟩,⟨g1,g2,g3,g4,⟨⟩⟩,⟨⟩⟩ ⟨hr,hb,h1,h2,hg⟩
 cases hb
 cases hr
 cases hg
 simp only
 refine aE ?_ ?_<;>intro hc
 ·have lh:=tJ h1 hc
  have has:=DW (l:=p.aA) h1
  have fa:=DQ (p.aA.take i.toNat)
  have zT:=Mp p.aA i.toNat
  rw[mO] at fa
  rw[wi (n:=i+1)]
  refine⟨by omega,by omega,mn (fun hk=> ?_) (fun hk=> ?_)⟩
  ·rw[if_pos hk] at lh has
   refine⟨by omega,by omega,by simp only[iD,ii];omega,by simp only[iD,ii];omega,⟨rfl,rfl,by omega,by omega,by rw[lh,has]⟩,by simp only[v7];omega⟩
  ·rw[if_neg hk,sI] at lh has
   exact⟨⟨rfl,rfl,by omega,by omega,by rw[lh,has]⟩,by simp only[v7];omega⟩
 ·have e:i.toNat=p.aA.length:=by omega
  rw[e,List.take_length]
  exact aO _
def agB:=bE (α:=bj×bj) (qC (qA .bI) (q1 (qA .bI))) [.ro,.ro] (fun _=>[]) (fun(a,b)=>⟨[dO (decide (a=b))],[],[]⟩)
def aij:HH:=hF agB func250 [XP,XU] a0 fun x hp hb=>by
 obtain⟨a,b⟩:=x
 have aG:=nv (x:=a) (hb _ m0)
 have jg:=aG.1
 have pU:=aG.2.1
 have AF:=aG.2.2
 have cr:=nv (x:=b) (hb _ m1)
 have zf:=cr.1
 have IS:=cr.2.1
 have TQ:=cr.2.2
 clear hp hb
 apply vE (let q0:=Lb false (decide (a=b));bif a.Kind.toList==b.Kind.toList then bif a.N==b.N then bif decide (a.fg=b.fg) then Lb (decide (a.At=b.At)) (decide (a=b)) else q0 else q0 else q0)
 dsimp only
 simp only[bZ]
 repeat' (first|refine ae (fun h=> ?_) (fun h=> ?_)|fail)
 all_goals (refine cx ?_;have he:=I4 a b;grind)
def ag':=bE (α:=bj×bj) (qC (qA .bI) (q1 (qA .bI))) [.ro,.ro] (fun _=>[]) (fun(a,b)=>⟨[dO (decide (a=b))],[],[]⟩)
def aje:HH:=hF ag' func167 [ack,XT] a0 fun x hp hb=>by
 obtain⟨a,b⟩:=x
 have aG:=nv (x:=a) (hb _ m0)
 have jg:=aG.1
 have pU:=aG.2.1
 have AF:=aG.2.2
 have cr:=nv (x:=b) (hb _ m1)
 have zf:=cr.1
 have IS:=cr.2.1
 have TQ:=cr.2.2
 clear hp hb
 apply vE (let q0:=Lb false (decide (a=b));bif a.Kind.toList==b.Kind.toList then bif a.N==b.N then bif decide (a.At=b.At) then Lb (decide (a.fg=b.fg)) (decide (a=b)) else q0 else q0 else q0)
 dsimp only
 simp only[bZ]
 repeat' (first|refine ae (fun h=> ?_) (fun h=> ?_)|fail)
 all_goals (refine cx ?_;have he:=I4 a b;grind)
def afz:=bE (α:=dE×bj) (qC (qX .mK) (q1 (qA .bI))) [.box true,.mv] (fun(n,a)=>[n.ab.length<=4294967294]) (fun(n,a)=>⟨[dI (fv n.ab a)],[],[dX .mK (⟨oy n.ab a,n.aC⟩:dE)]⟩)
def Hm(n:dE)(a:bj):Int×T1×T9×Unit->Prop:=fun(i,n1,b,_)=>n1=(n.ab,n.aC,())/\b=(a.Kind,a.N,a.fg,a.At,())/\0<=i/\i<=n.ab.length/\∀j:Nat,(j:Int)<i->decide (n.ab.getD j hJ=a)=false
def G1(n:dE)(a:bj):Int×T1×T9×Unit->Nat:=fun(i,n1,b,_)=>n.ab.length-i.toNat
def arX:AX afz:=fun(n,a)=>bq [(2,az [iI 5,.box 0 (2000000,0) [.own .bI true,.own .ci true],.box 3 (3,1024) [.lit .str,.lit (.int .i64),.own .bC true,.own .int true]] (fun _=>Hm n a) (G1 n a))]
def aqH:HH:=hF afz func98 [aje] arX fun x hp hb=>by
 obtain⟨n,a⟩:=x
 have aG:=JE (x:=n) (hb _ m0)
 have iK:=aG.1
 have iJ:=aG.2
 have cr:=nv (x:=a) (hb _ m1)
 have jg:=cr.1
 have pU:=cr.2.1
 have AF:=cr.2.2
 have bP:n.ab.length<=4294967294:=hp _ m0
 clear hp hb
 apply vE (Hm n a (0,(n.ab,n.aC,()),(a.Kind,a.N,a.fg,a.At,()),())/\∀(y:Int×T19×T18×PUnit),let x2:={Kind:=y.2.2.1.1,N:=y.2.2.1.2.1,fg:=y.2.2.1.2.2.1,At:=y.2.2.1.2.2.2.1:bj};let x3:=y.2.1.1.length;let x1:=[x2];let x0:=y.2.1.1++x1;let q0:=(wrap i64 (y.1+1),y.2);Hm n a y->bif decide (y.1<(↑x3:Int)) then 0<=y.1/\y.1.toNat<x3/\y.1.toNat<x3/\y.1.toNat<x3/\y.1.toNat<x3/\bif decide (y.2.1.1.getD y.1.toNat hJ=x2) then LM [VI y.1] [VI (fv n.ab a)] [DV.box [CL .bI y.2.1.1,CL .ci y.2.1.2.1]] [DV.box [CL .bI (oy n.ab a),CL .ci n.aC]] else Hm n a q0/\G1 n a q0<G1 n a y else L4 (x3+x1.length)/\LM [VI (wrap i64 ((x0.length:Int)-1))] [VI (fv n.ab a)] [DV.box [CL .bI x0,CL .ci y.2.1.2.1]] [DV.box [CL .bI (oy n.ab a),CL .ci n.aC]])
 dsimp only
 refine⟨⟨rfl,rfl,by omega,by omega,by intro j hj;omega⟩,?_⟩
 rintro⟨i,⟨n1,n2,⟨⟩⟩,⟨b1,b2,b3,b4,⟨⟩⟩,⟨⟩⟩ ⟨hn,hb,h1,h2,hR⟩
 cases hn
 cases hb
 simp only
 refine aE ?_ ?_<;>intro hc
 ·rw[wi (n:=i+1)]
  refine⟨by omega,by omega,by omega,by omega,by omega,aE (fun he=> ?_) (fun he=>⟨⟨rfl,rfl,by omega,by omega,fun j hj=> ?_⟩,by simp only[G1];omega⟩)⟩
  ·obtain⟨e1,e2⟩:=zL h1 hc (a:=a) he hR
   rw[e1,e2]
   exact⟨by first|trivial|rfl,rfl,rfl⟩
  ·by_cases pg:(j:Int)<i
   ·exact hR j pg
   ·have e:j=i.toNat:=by omega
    subst e
    exact decide_eq_false he
 ·obtain⟨e1,e2⟩:=CW (l:=n.ab) (a:=a) (fun j hj=>hR j (by omega))
  rw[e1,e2,wrap_i64 (by simp only[kF,iD,ii];omega) (by simp only[kF,iD,ii];omega)]
  refine⟨by simp only[iD,ii];omega,by first|trivial|rfl,?_,rfl⟩
  have e3:(((n.ab++[a]).length:Nat):Int)-1=n.ab.length:=by simp only[kF,iD,ii];omega
  exact congrArg (fun x:Int=>AQ [DV.one (Cell.lit (Value.int .i64 x))]) e3
def WY:=bE (α:=dE×bc) (qC (qX .mK) (q1 (qA .cq))) [.box true,.ro] (fun(n,p)=>[n.ab.length<=4294967294,p.aA.length<=4294967295]) (fun(n,p)=>⟨[dI (fv n.ab (cb p))],[],[dX .mK (⟨oy n.ab (cb p),n.aC⟩:dE)]⟩)
def B'(n:dE)(p:bc):Int×T1×Unit×T9×Unit->Prop:=fun(i,n1,z,b,_)=>n1=(n.ab,n.aC,())/\b=((cb p).Kind,(cb p).N,(cb p).fg,(cb p).At,())/\0<=i/\i<=n.ab.length/\∀j:Nat,(j:Int)<i->decide (n.ab.getD j hJ=cb p)=false
def Bf(n:dE)(p:bc):Int×T1×Unit×T9×Unit->Nat:=fun(i,n1,z,b,_)=>n.ab.length-i.toNat
def akR:AX WY:=fun(n,p)=>bq [(3,az [iI 15,.box 0 (2000000,0) [.own .bI true,.own .ci true],.slot 13 (2000000,4096) .al,.box 5 (5,1024) [.lit .str,.lit (.int .i64),.own .bC true,.own .int true]] (fun _=>B' n p) (Bf n p))]
def aiT:HH:=hF WY func201 [aik,aij] akR fun x hp hb=>by
 obtain⟨n,p⟩:=x
 have aG:=JE (x:=n) (hb _ m0)
 have iK:=aG.1
 have iJ:=aG.2
 have cr:=nC (x:=p) (hb _ m1)
 have ng:=cr.1
 have ni:=cr.2
 have bP:n.ab.length<=4294967294:=hp _ m0
 have jv:p.aA.length<=4294967295:=hp _ m1
 clear hp hb
 apply vE (p.aA.length<=4294967295/\B' n p (0,(n.ab,n.aC,()),(),((cb p).Kind,(cb p).N,(cb p).fg,(cb p).At,()),())/\∀(y:Int×T19×PUnit×T18×PUnit),let x2:={Kind:=y.2.2.2.1.1,N:=y.2.2.2.1.2.1,fg:=y.2.2.2.1.2.2.1,At:=y.2.2.2.1.2.2.2.1:bj};let x3:=y.2.1.1.length;let x1:=[x2];let x0:=y.2.1.1++x1;let q0:=(wrap i64 (y.1+1),y.2.1,(),y.2.2.2);B' n p y->bif decide (y.1<(n.ab.length:Int)) then 0<=y.1/\y.1.toNat<x3/\y.1.toNat<x3/\y.1.toNat<x3/\y.1.toNat<x3/\bif decide (y.2.1.1.getD y.1.toNat hJ=x2) then LM [VI y.1] [VI (fv n.ab (cb p))] [DV.box [CL .bI y.2.1.1,CL .ci y.2.1.2.1]] [DV.box [CL .bI (oy n.ab (cb p)),CL .ci n.aC]] else B' n p q0/\Bf n p q0<Bf n p y else L4 (x3+x1.length)/\LM [VI (wrap i64 ((x0.length:Int)-1))] [VI (fv n.ab (cb p))] [DV.box [CL .bI x0,CL .ci y.2.1.2.1]] [DV.box [CL .bI (oy n.ab (cb p)),CL .ci n.aC]])
 dsimp only
 refine⟨jv,⟨⟨rfl,rfl,by omega,by omega,by intro j hj;omega⟩,?_⟩⟩
 rintro⟨i,⟨n1,n2,⟨⟩⟩,z,⟨b1,b2,b3,b4,⟨⟩⟩,⟨⟩⟩ ⟨hn,hb,h1,h2,hR⟩
 cases hn
 cases hb
 simp only
 refine aE ?_ ?_<;>intro hc
 ·rw[wi (n:=i+1)]
  refine⟨by omega,by omega,by omega,by omega,by omega,aE (fun he=> ?_) (fun he=>⟨⟨rfl,rfl,by omega,by omega,fun j hj=> ?_⟩,by simp only[Bf];omega⟩)⟩
  ·obtain⟨e1,e2⟩:=zL h1 hc (a:=cb p) he hR
   rw[e1,e2]
   exact⟨by first|trivial|rfl,rfl,rfl⟩
  ·by_cases pg:(j:Int)<i
   ·exact hR j pg
   ·have e:j=i.toNat:=by omega
    subst e
    exact decide_eq_false he
 ·obtain⟨e1,e2⟩:=CW (l:=n.ab) (a:=cb p) (fun j hj=>hR j (by omega))
  rw[e1,e2,wrap_i64 (by simp only[kF,iD,ii];omega) (by simp only[kF,iD,ii];omega)]
  refine⟨by simp only[iD,ii];omega,by first|trivial|rfl,?_,rfl⟩
  have e3:(((n.ab++[cb p]).length:Nat):Int)-1=n.ab.length:=by simp only[kF,iD,ii];omega
  exact congrArg (fun x:Int=>AQ [DV.one (Cell.lit (Value.int .i64 x))]) e3
def mf:List bc->List bj->List Int->List Int->List bj×bm
 |[],al,ps,ns=>(al,⟨ps,ns⟩)
 |p::r,al,ps,ns=>mf r (oy al (cb p)) (if p.Not=true then ps else ps++[fv al (cb p)]) (if p.Not=true then ns++[fv al (cb p)] else ns)
def qJ:List aw->List bj->List bm->dE
 |[],al,cs=>⟨al,cs⟩
 |r::rs,al,cs=>qJ rs (mf r.ai al [] []).1 (cs++[(mf r.ai al [] []).2])
def bg(d:bY):dE:=qJ d.af [] []
def SZ(d:bY):dE:=if gJ d then bg d else⟨[],[]⟩
def oj(l:List aw):Nat:=(l.map fun r=>r.ai.length).sum
theorem Iy:∀(l:List bc)(al:List bj)(ps ns:List Int),(mf l al ps ns).1.length<=al.length+l.length/\al.length<=(mf l al ps ns).1.length/\(mf l al ps ns).2.Pos.length+(mf l al ps ns).2.Neg.length=ps.length+ns.length+l.length
 |[],al,ps,ns=>⟨by simp[mf],by simp[mf],by simp[mf]⟩
 |p::r,al,ps,ns=>by
  obtain⟨h1,h2,h3⟩:=Iy r (oy al (cb p)) (if p.Not=true then ps else ps++[fv al (cb p)]) (if p.Not=true then ns++[fv al (cb p)] else ns)
  have h4:=D5 al (cb p)
  unfold mf
  refine⟨by simp only[iD];omega,by omega,?_⟩
  rw[h3]
  by_cases hn:p.Not=true
  ·simp only[if_pos hn,kF,iD,ii];omega
  ·simp only[if_neg hn,kF,iD,ii];omega
theorem CX{l:List aw}{i:Int}(h0:0<=i)(h:i<l.length):oj (l.drop i.toNat)=(l.getD i.toNat aP).ai.length+oj (l.drop (i+1).toNat):=by
 rw[cj l aP h0 h];rfl
theorem Zk(l:List bc):l.length<=gD l:=by simp only[gD];omega
theorem wD:∀(l:List aw),oj l+l.length<=ee l
 |[]=>by simp[oj,ee]
 |r::l=>by
  have h:=wD l
  have h2:=Zk r.ai
  simp only[oj,ee,rl,N4,iD,dG] at h⊢
  omega
theorem JI{l:List aw}{i k:Int}(h0:0<=i)(h:i<l.length)(g0:0<=k)(g:k<(l.getD i.toNat aP).ai.length):((l.getD i.toNat aP).ai.getD k.toNat dl).aA.length<=ee l:=by
 have h1:=iF dG l aP h0 h
 have h2:=iF gV (l.getD i.toNat aP).ai dl g0 g
 simp only[dG,gD] at h1
 simp only[gV,jC] at h2
 simp only[ee]
 omega
def mh(n:dE):df:=⟨List.replicate n.ab.length cS,n.aC.map fun c=>(⟨List.replicate c.Pos.length aB⟩:dR)⟩
def gf(n:dE):Prop:=n.aC.length<=4294967295/\∀c∈n.aC,c.Pos.length<=4294967295
theorem LJ:∀(l:List aw)(al:List bj)(cs:List bm)(B:Nat),(∀c∈cs,c.Pos.length<=B)->oj l<=B->(qJ l al cs).ab.length<=al.length+oj l/\(qJ l al cs).aC.length=cs.length+l.length/\∀c∈(qJ l al cs).aC,c.Pos.length<=B
 |[],al,cs,B,h,_=>⟨by simp[qJ,oj],by simp[qJ],h⟩
 |r::l,al,cs,B,h,hb=>by
  obtain⟨h1,h2,h3⟩:=Iy r.ai al [] []
  have hp:oj (r::l)=r.ai.length+oj l:=rfl
  obtain⟨g1,g2,g3⟩:=LJ l (mf r.ai al [] []).1 (cs++[(mf r.ai al [] []).2]) B (fun c hc=>by
   rcases gA.1 hc with hc|hc
   ·exact h c hc
   ·rw[g_.1 hc];simp only[ii] at h3;omega) (by omega)
  unfold qJ
  exact⟨by omega,by rw[g2];simp;omega,g3⟩
theorem Gh{d:bY}(h:bo d<=4294967295):(SZ d).ab.length<=4294967295/\gf (SZ d):=by
 unfold SZ
 split
 ·have h1:=wD d.af
  simp only[bo] at h
  obtain⟨g1,g2,g3⟩:=LJ d.af [] [] 4294967295 (by simp) (by omega)
  simp only[ii] at g1 g2
  exact⟨by show(qJ d.af [] []).ab.length<=_;omega,by show(qJ d.af [] []).aC.length<=_;omega,g3⟩
 ·exact⟨by simp,by simp,by simp⟩
theorem Ig{α:Type}(z:α){i:Int}(h0:0<=i):List.replicate i.toNat z++[z]=List.replicate (i+1).toNat z:=by
 have e:(i+1).toNat=i.toNat+1:=by omega
 rw[e,List.replicate_succ']
theorem C2{d:bY}(h:gJ d=true):SZ d=bg d:=if_pos h
def Xo:=bE (α:=bY) (q1 (qA .jc)) [.ro] (fun d=>[bo d<=4294967295]) (fun d=>⟨[dA .mK (bg d)],[],[]⟩)
def Co(d:bY):Int×T7×T1×T1×Unit->Prop:=fun(i,b,r,n,_)=>b=(d.Name,d.af,())/\r=([],[],())/\0<=i/\i<=d.af.length/\qJ (d.af.drop i.toNat) n.1 n.2.1=qJ d.af [] []/\n.1.length+oj (d.af.drop i.toNat)<=oj d.af/\n.2.1.length<=i
def Bw(d:bY):Int×T7×T1×T1×Unit->Nat:=fun(i,b,r,n,_)=>d.af.length-i.toNat
def yr(d:bY):Int×Int×T7×T1×T1×T0×T6×Unit->Int×Int×T7×T1×T1×T0×T6×Unit->Prop:=fun(i0,k0,b0,r0,n0,u0,c0,_) (i,k,b,r,n,u,c,_)=>i=i0/\b=b0/\r=r0/\u=u0/\n.2.1=n0.2.1/\0<=k/\k<=(d.af.getD i0.toNat aP).ai.length/\mf ((d.af.getD i0.toNat aP).ai.drop k.toNat) n.1 c.1 c.2.1=mf (d.af.getD i0.toNat aP).ai n0.1 [] []/\n.1.length<=n0.1.length+k/\c.1.length<=k/\c.2.1.length<=k
def sB(d:bY):Int×Int×T7×T1×T1×T0×T6×Unit->Nat:=fun(i,k,b,r,n,u,c,_)=>(d.af.getD i.toNat aP).ai.length-k.toNat
def alh:AX Xo:=fun d=>bq [(3,az [iI 13,.box 1 (1,1024) [.lit .str,.shr .cw],.box 2 (2,1024) [.own .bI true,.own .ci true],.box 3 (3,1024) [.own .bI true,.own .ci true]] (fun _=>Co d) (Bw d)),(7,az [iI 13,iI 20,.box 1 (1,1024) [.lit .str,.shr .cw],.box 2 (2,1024) [.own .bI true,.own .ci true],.box 3 (3,1024) [.own .bI true,.own .ci true],.box 5 (5,1024) [.lit .str,.lit (.int .i64),.shr .cq,.shr .cQ,.shr .eT],.box 6 (6,1024) [.own .int true,.own .int true]] (yr d) (sB d))]
def ajE:HH:=hF Xo func135 [aiT] alh fun(d:bY) hp hb=>by
 have aG:=gO (x:=d) (hb _ m0)
 have fj:=aG.1
 have ez:=aG.2
 have bP:bo d<=4294967295:=hp _ m0
 clear hp hb
 apply vE (let q0:=List bj×List bm×PUnit;Co d (0,(d.Name,d.af,()),([],[],()),([],[],()),())/\∀(y:Int×JT×q0×q0×PUnit),let x0:=d.af.getD y.1.toNat aP;let q1:=(y.1,0,y.2.1,y.2.2.1,y.2.2.2.1,(x0.Name,x0.mM,x0.ai,x0.bA,x0.cp,()),([],[],()),());Co d y->bif decide (y.1<(d.af.length:Int)) then 0<=y.1/\y.1.toNat<d.af.length/\yr d q1 q1/\∀(av:Int×Int×JT×q0×q0×T16×T20×PUnit),let x2:=[{Pos:=av.2.2.2.2.2.2.1.1,Neg:=av.2.2.2.2.2.2.1.2.1:bm}];let x4:=wrap i64 (av.2.1+1);let x5:=av.2.1.toNat;let x3:=x0.ai.getD x5 dl;let x1:=[fv av.2.2.2.2.1.1 (cb x3)];let q2:=(av.1,x4,av.2.2.1,av.2.2.2.1,(oy av.2.2.2.2.1.1 (cb x3),av.2.2.2.2.1.2),av.2.2.2.2.2.1,(av.2.2.2.2.2.2.1.1,av.2.2.2.2.2.2.1.2.1++x1,()),());let q3:=(av.1,x4,av.2.2.1,av.2.2.2.1,(oy av.2.2.2.2.1.1 (cb x3),av.2.2.2.2.1.2),av.2.2.2.2.2.1,(av.2.2.2.2.2.2.1.1++x1,av.2.2.2.2.2.2.1.2),());let q4:=(wrap i64 (av.1+1),av.2.2.1,av.2.2.2.1,(av.2.2.2.2.1.1,av.2.2.2.2.1.2.1++x2,()),());yr d q1 av->bif decide (av.2.1<(x0.ai.length:Int)) then 0<=av.2.1/\x5<x0.ai.length/\av.2.2.2.2.1.1.length<=4294967294/\x3.aA.length<=4294967295/\bif x3.Not then L4 (av.2.2.2.2.2.2.1.2.1.length+x1.length)/\yr d q1 q2/\sB d q2<sB d av else L4 (av.2.2.2.2.2.2.1.1.length+x1.length)/\yr d q1 q3/\sB d q3<sB d av else L4 (av.2.2.2.2.1.2.1.length+x2.length)/\Co d q4/\Bw d q4<Bw d y else Lf [DV.agg [CL .bI y.2.2.2.1.1,CL .ci y.2.2.2.1.2.1]] [DV.agg [CL .bI (bg d).ab,CL .ci (bg d).aC]])
 dsimp only
 have hpn:=wD d.af
 have mS:oj d.af+d.af.length<=4294967295:=by simp only[bo] at bP;omega
 refine⟨⟨rfl,rfl,by omega,by omega,rfl,by simp,by simp⟩,?_⟩
 rintro⟨i,⟨b1,b2,⟨⟩⟩,⟨r1,r2,⟨⟩⟩,⟨na,nc,⟨⟩⟩,⟨⟩⟩ ⟨hb,hr,h1,h2,h3,h4,h5⟩
 cases hb
 cases hr
 simp only at h3 h4 h5⊢
 refine aE ?_ ?_<;>intro hc
 ·have hpd:=CX h1 hc
  refine⟨h1,by omega,⟨rfl,rfl,rfl,rfl,rfl,by omega,by omega,rfl,by simp,by simp,by simp⟩,?_⟩
  rintro⟨i',k,⟨b1,b2,⟨⟩⟩,⟨r1,r2,⟨⟩⟩,⟨ma,mc,⟨⟩⟩,⟨u1,u2,u3,u4,u5,⟨⟩⟩,⟨c1,c2,⟨⟩⟩,⟨⟩⟩ ⟨g0,g1,g2,g3,g4,g5,g6,g7,g8,g9,g10⟩
  replace g0:i'=i:=g0
  subst i'
  cases g1
  cases g2
  cases g3
  replace g4:mc=nc:=g4
  subst mc
  simp only at g5 g6 g7 g8 g9 g10⊢
  refine aE ?_ ?_<;>intro hk
  ·have ha:=JI h1 hc g5 hk
   have hd:=cj (d.af.getD i.toNat aP).ai dl g5 hk
   rw[hd,mf] at g7
   have zT:=D5 ma (cb ((d.af.getD i.toNat aP).ai.getD k.toNat dl))
   have hz:ee d.af<=4294967295:=by simp only[bo] at bP;omega
   rw[wi (n:=k+1)]
   refine⟨g5,by omega,by omega,by omega,ae (fun hn=> ?_) (fun hn=> ?_)⟩
   ·rw[if_pos hn,if_pos hn] at g7
    exact⟨by simp only[iD,ii];omega,⟨rfl,rfl,rfl,rfl,rfl,by omega,by omega,g7,by simp only;omega,by simp only;omega,by simp only[kF,iD,ii];omega⟩,by simp only[sB];omega⟩
   ·have qi:¬((d.af.getD i.toNat aP).ai.getD k.toNat dl).Not=true:=by rw[hn];exact Bool.false_ne_true
    rw[if_neg qi,if_neg qi] at g7
    exact⟨by simp only[iD,ii];omega,⟨rfl,rfl,rfl,rfl,rfl,by omega,by omega,g7,by simp only;omega,by simp only[kF,iD,ii];omega,by simp only;omega⟩,by simp only[sB];omega⟩
  ·have e:k.toNat=(d.af.getD i.toNat aP).ai.length:=by omega
   rw[e,List.drop_length] at g7
   replace g7:(ma,(⟨c1,c2⟩:bm))=mf (d.af.getD i.toNat aP).ai na [] []:=g7
   have hd:=cj d.af aP h1 hc
   rw[hd,qJ,<-g7] at h3
   rw[wi (n:=i+1)]
   exact⟨by simp only[iD,ii];omega,⟨rfl,rfl,by omega,by omega,h3,by simp only;omega,by simp only[kF,iD,ii];omega⟩,by simp only[Bw];omega⟩
 ·have e:i.toNat=d.af.length:=by omega
  rw[e,List.drop_length] at h3
  replace h3:(⟨na,nc⟩:dE)=bg d:=h3
  rw[<-h3]
  exact aO _
def af6:=bE (α:=bY) (q1 (qA .jc)) [.ro] (fun d=>[bo d<=4294967295]) (fun d=>⟨[dA .mK (bg d)],[],[]⟩)
def HC(d:bY):Int×T7×T1×T1×Unit->Prop:=fun(i,b,r,n,_)=>b=(d.Name,d.af,())/\r=([],[],())/\0<=i/\i<=d.af.length/\qJ (d.af.drop i.toNat) n.1 n.2.1=qJ d.af [] []/\n.1.length+oj (d.af.drop i.toNat)<=oj d.af/\n.2.1.length<=i
def Hc(d:bY):Int×T7×T1×T1×Unit->Nat:=fun(i,b,r,n,_)=>d.af.length-i.toNat
def Ea(d:bY):Int×Int×T7×T1×T1×T6×Unit->Int×Int×T7×T1×T1×T6×Unit->Prop:=fun(i0,k0,b0,r0,n0,c0,_) (i,k,b,r,n,c,_)=>i=i0/\b=b0/\r=r0/\n.2.1=n0.2.1/\0<=k/\k<=(d.af.getD i0.toNat aP).ai.length/\mf ((d.af.getD i0.toNat aP).ai.drop k.toNat) n.1 c.1 c.2.1=mf (d.af.getD i0.toNat aP).ai n0.1 [] []/\n.1.length<=n0.1.length+k/\c.1.length<=k/\c.2.1.length<=k
def wb(d:bY):Int×Int×T7×T1×T1×T6×Unit->Nat:=fun(i,k,b,r,n,c,_)=>(d.af.getD i.toNat aP).ai.length-k.toNat
def ast:AX af6:=fun d=>bq [(3,az [iI 4,.box 1 (1,1024) [.lit .str,.shr .cw],.box 2 (2,1024) [.own .bI true,.own .ci true],.box 3 (3,1024) [.own .bI true,.own .ci true]] (fun _=>HC d) (Hc d)),(7,az [iI 4,iI 6,.box 1 (1,1024) [.lit .str,.shr .cw],.box 2 (2,1024) [.own .bI true,.own .ci true],.box 3 (3,1024) [.own .bI true,.own .ci true],.box 5 (5,1024) [.own .int true,.own .int true]] (Ea d) (wb d))]
def arq:HH:=hF af6 func43 [aqG,aqH] ast fun(d:bY) hp hb=>by
 have aG:=gO (x:=d) (hb _ m0)
 have fj:=aG.1
 have ez:=aG.2
 have bP:bo d<=4294967295:=hp _ m0
 clear hp hb
 apply vE (let q0:=List bj×List bm×PUnit;HC d (0,(d.Name,d.af,()),([],[],()),([],[],()),())/\∀(y:Int×JT×q0×q0×PUnit),let x0:=(y.2.1.2.1.length:Int);let q1:=(y.1,0,y.2.1,y.2.2.1,y.2.2.2.1,([],[],()),());HC d y->bif decide (y.1<x0) then Ea d q1 q1/\∀(av:Int×Int×JT×q0×q0×T20×PUnit),let x2:=[{Pos:=av.2.2.2.2.2.1.1,Neg:=av.2.2.2.2.2.1.2.1:bm}];let x6:=(av.2.2.1.2.1.getD av.1.toNat aP).ai;let x7:=wrap i64 (av.2.1+1);let x8:=av.2.1.toNat;let x3:=x6.getD x8 dl;let x5:=x6.length;let x1:=[fv av.2.2.2.2.1.1 (cb x3)];let x4:=(↑x5:Int);let q2:=(oy av.2.2.2.2.1.1 (cb x3),av.2.2.2.2.1.2);let q3:=(wrap i64 (av.1+1),av.2.2.1,av.2.2.2.1,(av.2.2.2.2.1.1,av.2.2.2.2.1.2.1++x2,()),());let q4:=(av.1,x7,av.2.2.1,av.2.2.2.1,q2,(av.2.2.2.2.2.1.1,av.2.2.2.2.2.1.2.1++x1,()),());let q5:=(av.1,x7,av.2.2.1,av.2.2.2.1,q2,(av.2.2.2.2.2.1.1++x1,av.2.2.2.2.2.1.2),());Ea d q1 av->0<=av.1/\av.1.toNat<av.2.2.1.2.1.length/\bif decide (av.2.1<x4) then 0<=av.1/\av.1.toNat<av.2.2.1.2.1.length/\0<=av.2.1/\x8<x5/\x3.aA.length<=4294967295/\av.2.2.2.2.1.1.length<=4294967294/\bif x3.Not then L4 (av.2.2.2.2.2.1.2.1.length+x1.length)/\Ea d q1 q4/\wb d q4<wb d av else L4 (av.2.2.2.2.2.1.1.length+x1.length)/\Ea d q1 q5/\wb d q5<wb d av else L4 (av.2.2.2.2.1.2.1.length+x2.length)/\HC d q3/\Hc d q3<Hc d y else Lf [DV.agg [CL .bI y.2.2.2.1.1,CL .ci y.2.2.2.1.2.1]] [DV.agg [CL .bI (bg d).ab,CL .ci (bg d).aC]])
 dsimp only
 have hpn:=wD d.af
 have mS:oj d.af+d.af.length<=4294967295:=by simp only[bo] at bP;omega
 refine⟨⟨rfl,rfl,by omega,by omega,rfl,by simp,by simp⟩,?_⟩
 rintro⟨i,⟨b1,b2,⟨⟩⟩,⟨r1,r2,⟨⟩⟩,⟨na,nc,⟨⟩⟩,⟨⟩⟩ ⟨hb,hr,h1,h2,h3,h4,h5⟩
 cases hb
 cases hr
 simp only at h3 h4 h5⊢
 refine aE ?_ ?_<;>intro hc
 ·have hpd:=CX h1 hc
  refine⟨⟨rfl,rfl,rfl,rfl,by omega,by omega,rfl,by simp,by simp,by simp⟩,?_⟩
  rintro⟨i',k,⟨b1,b2,⟨⟩⟩,⟨r1,r2,⟨⟩⟩,⟨ma,mc,⟨⟩⟩,⟨c1,c2,⟨⟩⟩,⟨⟩⟩ ⟨g0,g1,g2,g4,g5,g6,g7,g8,g9,g10⟩
  replace g0:i'=i:=g0
  subst i'
  cases g1
  cases g2
  replace g4:mc=nc:=g4
  subst mc
  simp only at g5 g6 g7 g8 g9 g10⊢
  refine⟨h1,by omega,aE (fun hk=> ?_) (fun hk=> ?_)⟩
  ·have ha:=JI h1 hc g5 hk
   have hd:=cj (d.af.getD i.toNat aP).ai dl g5 hk
   rw[hd,mf] at g7
   have zT:=D5 ma (cb ((d.af.getD i.toNat aP).ai.getD k.toNat dl))
   have hz:ee d.af<=4294967295:=by simp only[bo] at bP;omega
   rw[wi (n:=k+1)]
   refine⟨h1,by omega,g5,by omega,by omega,by omega,ae (fun hn=> ?_) (fun hn=> ?_)⟩
   ·rw[if_pos hn,if_pos hn] at g7
    exact⟨by simp only[iD,ii];omega,⟨rfl,rfl,rfl,rfl,by omega,by omega,g7,by simp only;omega,by simp only;omega,by simp only[kF,iD,ii];omega⟩,by simp only[wb];omega⟩
   ·have qi:¬((d.af.getD i.toNat aP).ai.getD k.toNat dl).Not=true:=by rw[hn];exact Bool.false_ne_true
    rw[if_neg qi,if_neg qi] at g7
    exact⟨by simp only[iD,ii];omega,⟨rfl,rfl,rfl,rfl,by omega,by omega,g7,by simp only;omega,by simp only[kF,iD,ii];omega,by simp only;omega⟩,by simp only[wb];omega⟩
  ·have e:k.toNat=(d.af.getD i.toNat aP).ai.length:=by omega
   rw[e,List.drop_length] at g7
   replace g7:(ma,(⟨c1,c2⟩:bm))=mf (d.af.getD i.toNat aP).ai na [] []:=g7
   have hd:=cj d.af aP h1 hc
   rw[hd,qJ,<-g7] at h3
   rw[wi (n:=i+1)]
   exact⟨by simp only[iD,ii];omega,⟨rfl,rfl,by omega,by omega,h3,by simp only;omega,by simp only[kF,iD,ii];omega⟩,by simp only[Hc];omega⟩
 ·have e:i.toNat=d.af.length:=by omega
  rw[e,List.drop_length] at h3
  replace h3:(⟨na,nc⟩:dE)=bg d:=h3
  rw[<-h3]
  exact aO _
def Xn:=bE (α:=dE) (q1 (qA .mK)) [.ro] (fun n=>[n.ab.length<=4294967295,gf n]) (fun n=>⟨[dA .jU (mh n)],[],[]⟩)
def Cn(n:dE):Int×T1×T3×T3×Unit->Prop:=fun(i,b,r,m,_)=>b=(n.ab,n.aC,())/\r=([],[],())/\0<=i/\i<=n.aC.length/\m=(List.replicate n.ab.length cS,(n.aC.take i.toNat).map (fun c=>(⟨List.replicate c.Pos.length aB⟩:dR)),())
def Bv(n:dE):Int×T1×T3×T3×Unit->Nat:=fun(i,b,r,m,_)=>n.aC.length-i.toNat
def alg:AX Xn:=fun n=>bq [(3,az [iI 14,.box 1 (1,1024) [.shr .bI,.shr .ci],.box 2 (2,1024) [.own .cD true,.own .di true],.box 3 (3,1024) [.own .cD true,.own .di true]] (fun _=>Cn n) (Bv n))]
def ajD:HH:=hF Xn func136 [] alg fun(n:dE) hp hb=>by
 have aG:=uN (x:=n) (hb _ m0)
 have iK:=aG.1
 have iJ:=aG.2
 have bP:n.ab.length<=4294967295:=hp _ m0
 have jv:gf n:=hp _ m1
 clear hp hb
 apply vE (let x0:=(n.ab.length:Int);0<=x0/\x0=x0/\x0<=4294967296/\Cn n (0,(n.ab,n.aC,()),([],[],()),(List.replicate x0.toNat cS,[],()),())/\∀(y:Int×T19×Oi×Oi×PUnit),let x1:=(↑((n.aC.getD y.1.toNat b_).Pos.length):Int);let q0:=(wrap i64 (y.1+1),y.2.1,y.2.2.1,(y.2.2.2.1.1,y.2.2.2.1.2.1++[{ao:=List.replicate x1.toNat aB:dR}],()),());Cn n y->bif decide (y.1<(n.aC.length:Int)) then 0<=y.1/\y.1.toNat<n.aC.length/\0<=x1/\x1=x1/\x1<=4294967296/\y.2.2.2.1.2.1.length+List.length [{ao:=List.replicate x1.toNat aB:dR}]<=4294967296/\Cn n q0/\Bv n q0<Bv n y else Lf [DV.agg [CL .cD y.2.2.2.1.1,CL .di y.2.2.2.1.2.1]] [DV.agg [CL .cD (mh n).ab,CL .di (mh n).af]])
 dsimp only
 have hl:∀{i:Int},0<=i->i<n.aC.length->(n.aC.getD i.toNat b_).Pos.length<=4294967295:=fun h0 h=>jv.2 _ (I0 n.aC b_ h0 h)
 have L6:=jv.1
 refine⟨by omega,rfl,by omega,⟨rfl,rfl,by omega,by omega,rfl⟩,?_⟩
 rintro⟨i,⟨b1,b2,⟨⟩⟩,⟨r1,r2,⟨⟩⟩,⟨m1,m2,⟨⟩⟩,⟨⟩⟩ ⟨hb,hr,h1,h2,hm⟩
 cases hb
 cases hr
 cases hm
 simp only
 refine aE ?_ ?_<;>intro hc
 ·have hl:=hl h1 hc
  rw[wi (n:=i+1)]
  refine⟨h1,by omega,by omega,trivial,by omega,by simp only[wj,mO,iD,ii];omega,⟨rfl,rfl,by omega,by omega,?_⟩,by simp only[Bv];omega⟩
  rw[<-lq n.aC b_ h1 hc,Em]
  rfl
 ·rw[iq n.aC (by omega)]
  exact aO _
def XF:=bE (α:=dE) (q1 (qA .mK)) [.ro] (fun n=>[n.ab.length<=4294967295,gf n]) (fun n=>⟨[dA .jU (mh n)],[],[]⟩)
def Cz(n:dE):Int×T1×T3×T3×Unit->Prop:=fun(i,b,r,m,_)=>b=(n.ab,n.aC,())/\r=([],[],())/\0<=i/\i<=n.ab.length/\m=(List.replicate i.toNat cS,[],())
def BI(n:dE):Int×T1×T3×T3×Unit->Nat:=fun(i,b,r,m,_)=>n.ab.length-i.toNat
def Cy(n:dE):Int×T1×T3×T3×Unit->Prop:=fun(i,b,r,m,_)=>b=(n.ab,n.aC,())/\r=([],[],())/\0<=i/\i<=n.aC.length/\m=(List.replicate n.ab.length cS,(n.aC.take i.toNat).map (fun c=>(⟨List.replicate c.Pos.length aB⟩:dR)),())
def BH(n:dE):Int×T1×T3×T3×Unit->Nat:=fun(i,b,r,m,_)=>n.aC.length-i.toNat
def yC(n:dE):Int×Int×T1×T3×T3×T24×Unit->Int×Int×T1×T3×T3×T24×Unit->Prop:=fun(i0,k0,b0,r0,m0,v0,_) (i,k,b,r,m,v,_)=>i=i0/\b=b0/\r=r0/\m=m0/\0<=k/\k<=(n.aC.getD i.toNat b_).Pos.length/\v=(List.replicate k.toNat aB,())
def xS(n:dE):Int×Int×T1×T3×T3×T24×Unit->Nat:=fun(i,k,b,r,m,v,_)=>(n.aC.getD i.toNat b_).Pos.length-k.toNat
def alA:AX XF:=fun n=>bq [(3,az [iI 4,.box 1 (1,1024) [.shr .bI,.shr .ci],.box 2 (2,1024) [.own .cD true,.own .di true],.box 3 (3,1024) [.own .cD true,.own .di true]] (fun _=>Cz n) (BI n)),(7,az [iI 5,.box 1 (1,1024) [.shr .bI,.shr .ci],.box 2 (2,1024) [.own .cD true,.own .di true],.box 3 (3,1024) [.own .cD true,.own .di true]] (fun _=>Cy n) (BH n)),(11,az [iI 5,iI 7,.box 1 (1,1024) [.shr .bI,.shr .ci],.box 2 (2,1024) [.own .cD true,.own .di true],.box 3 (3,1024) [.own .cD true,.own .di true],.box 6 (6,1024) [.own .cf true]] (yC n) (xS n))]
def aj6:HH:=hF XF func100 [] alA fun(n:dE) hp hb=>by
 have aG:=uN (x:=n) (hb _ m0)
 have iK:=aG.1
 have iJ:=aG.2
 have bP:n.ab.length<=4294967295:=hp _ m0
 have jv:gf n:=hp _ m1
 clear hp hb
 apply vE (let q0:=List b7×List dR×PUnit;let q1:=List bj×List bm×PUnit;Cz n (0,(n.ab,n.aC,()),([],[],()),([],[],()),())/\∀(y:Int×q1×q0×q0×PUnit),let x0:=(y.2.1.1.length:Int);Cz n y->bif decide (y.1<x0) then y.2.2.2.1.1.length+List.length [{L:=[]:b7}]<=4294967296/\Cz n (wrap i64 (y.1+1),y.2.1,y.2.2.1,(y.2.2.2.1.1++[{L:=[]:b7}],y.2.2.2.1.2),())/\BI n (wrap i64 (y.1+1),y.2.1,y.2.2.1,(y.2.2.2.1.1++[{L:=[]:b7}],y.2.2.2.1.2),())<BI n y else Cy n (0,y.2)/\∀(y:Int×q1×q0×q0×PUnit),let x1:=(y.2.1.2.1.length:Int);let q2:=(y.1,0,y.2.1,y.2.2.1,y.2.2.2.1,([],()),());Cy n y->bif decide (y.1<x1) then yC n q2 q2/\∀(av:Int×Int×q1×q0×q0×(List aq×PUnit)×PUnit),let x2:=[{ao:=av.2.2.2.2.2.1.1:dR}];let x3:=(↑((av.2.2.1.2.1.getD av.1.toNat b_).Pos.length):Int);let q3:=(av.1,wrap i64 (av.2.1+1),av.2.2.1,av.2.2.2.1,av.2.2.2.2.1,(av.2.2.2.2.2.1.1++[{bi:=[]:aq}],()),());let q4:=(wrap i64 (av.1+1),av.2.2.1,av.2.2.2.1,(av.2.2.2.2.1.1,av.2.2.2.2.1.2.1++x2,()),());yC n q2 av->0<=av.1/\av.1.toNat<av.2.2.1.2.1.length/\bif decide (av.2.1<x3) then av.2.2.2.2.2.1.1.length+List.length [{bi:=[]:aq}]<=4294967296/\yC n q2 q3/\xS n q3<xS n av else L4 (av.2.2.2.2.1.2.1.length+x2.length)/\Cy n q4/\BH n q4<BH n y else Lf [DV.agg [CL .cD y.2.2.2.1.1,CL .di y.2.2.2.1.2.1]] [DV.agg [CL .cD (mh n).ab,CL .di (mh n).af]])
 dsimp only
 have hl:∀{i:Int},0<=i->i<n.aC.length->(n.aC.getD i.toNat b_).Pos.length<=4294967295:=fun h0 h=>jv.2 _ (I0 n.aC b_ h0 h)
 have L6:=jv.1
 refine⟨⟨rfl,rfl,by omega,by omega,rfl⟩,?_⟩
 rintro⟨i,⟨b1,b2,⟨⟩⟩,⟨r1,r2,⟨⟩⟩,⟨m1,m2,⟨⟩⟩,⟨⟩⟩ ⟨hb,hr,h1,h2,hm⟩
 cases hb
 cases hr
 cases hm
 simp only
 refine aE ?_ ?_<;>intro hc
 ·rw[wi (n:=i+1)]
  refine⟨by simp only[X1,iD,ii];omega,⟨rfl,rfl,by omega,by omega,?_⟩,by simp only[BI];omega⟩
  rw[<-Ig cS h1]
  rfl
 ·have e:i.toNat=n.ab.length:=by omega
  rw[e]
  clear hc e h1 h2
  refine⟨⟨rfl,rfl,by omega,by omega,rfl⟩,?_⟩
  rintro⟨i,⟨b1,b2,⟨⟩⟩,⟨r1,r2,⟨⟩⟩,⟨m1,m2,⟨⟩⟩,⟨⟩⟩ ⟨hb,hr,h1,h2,hm⟩
  cases hb
  cases hr
  cases hm
  simp only
  refine aE ?_ ?_<;>intro hc
  ·have hl:=hl h1 hc
   refine⟨⟨rfl,rfl,rfl,rfl,by omega,by omega,rfl⟩,?_⟩
   rintro⟨i',k,⟨b1,b2,⟨⟩⟩,⟨r1,r2,⟨⟩⟩,⟨m1,m2,⟨⟩⟩,⟨v,⟨⟩⟩,⟨⟩⟩ ⟨g0,g1,g2,g3,g4,g5,g6⟩
   replace g0:i'=i:=g0
   subst i'
   cases g1
   cases g2
   cases g3
   cases g6
   simp only at g4 g5⊢
   refine⟨h1,by omega,aE (fun hk=> ?_) (fun hk=> ?_)⟩
   ·rw[wi (n:=k+1)]
    refine⟨by simp only[X1,iD,ii];omega,⟨rfl,rfl,rfl,rfl,by omega,by omega,?_⟩,by simp only[xS];omega⟩
    rw[<-Ig aB g4]
    rfl
   ·have e:k.toNat=(n.aC.getD i.toNat b_).Pos.length:=by omega
    rw[wi (n:=i+1),e]
    refine⟨by simp only[wj,mO,iD,ii];omega,⟨rfl,rfl,by omega,by omega,?_⟩,by simp only[BH];omega⟩
    rw[<-lq n.aC b_ h1 hc,Em]
    rfl
  ·rw[iq n.aC (by omega)]
   exact aO _
theorem wX{α β γ:Type}(F:β->γ)(h:α->List β)(h':α->List γ)(hh:∀x,List.Sublist ((h x).map F) (h' x)):∀(l:List α),List.Sublist ((l.flatMap h).map F) (l.flatMap h')
 |[]=>Ou _
 |x::l=>by
  rw[tV,tV,Em]
  exact(hh x).append (wX F h h' hh l)
theorem CG{α:Type}{a b:List α}{x y:α}(h:a++[x]=b++[y]):a=b/\x=y:=by
 have:=List.append_inj' h rfl
 exact⟨this.1,by simpa using this.2⟩
theorem CZ{α:Type}(ids:List α):∀{it:List α},it.Nodup->(it.map fun x=>ids++[x]).Nodup
 |[],_=>MH
 |x::it,h=>by
  rw[pH] at h
  rw[rl,pH]
  refine⟨fun hm=> ?_,CZ ids h.2⟩
  obtain⟨y,hy,e⟩:=jX.1 hm
  exact h.1 ((CG e).2▸hy)
theorem vC{α τ:Type}(I:τ->List α){it:List α}(hi:it.Nodup):∀{l:List τ},(l.map I).Nodup->(l.flatMap fun t=>it.map fun x=>I t++[x]).Nodup
 |[],_=>MH
 |t::l,h=>by
  rw[rl,pH] at h
  rw[tV,nH]
  refine⟨CZ _ hi,vC I hi h.2,fun a ha b hb e=> ?_⟩
  obtain⟨x,_,rfl⟩:=jX.1 ha
  obtain⟨t',Ei,aI⟩:=ln.1 hb
  obtain⟨y,_,rfl⟩:=jX.1 aI
  exact h.1 (jX.2 ⟨t',Ei,((CG e).1).symm⟩)
theorem vU(s:List bW):∀(ps qs:List bc)(ids:List Int)(l:List aW),ids.length<=ps.length->aY s (ps++qs) ids l=aY s ps ids l
 |ps,qs,[],l,_=>by cases ps<;>cases qs<;>rfl
 |[],_,_::_,_,h=>by simp at h
 |p::ps,qs,id::ids,l,h=>by
  have ih:=fun o=>vU s ps qs ids o (by simpa using h)
  simp only[zex,aY,ih]
theorem z_(s:List bW)(x:Int):∀(ps:List bc)(ids:List Int)(l:List aW),ids.length<ps.length->(aY s ps (ids++[x]) l).2=true->∃l',(ca (ps.getD ids.length dl) (ax s x) l').isSome=true
 |[],_,_,h,_=>absurd h (Nat.not_lt_zero _)
 |p::ps,[],l,_,h=>by
  simp only[List.nil_append,aY] at h
  split at h
  ·split at h
   ·rename_i o ho;exact⟨l,by show(ca p _ l).isSome=true;rw[ho];rfl⟩
   ·cases h
  ·cases h
 |p::ps,id::ids,l,hl,h=>by
  simp only[zex,aY] at h
  split at h
  ·split at h
   ·exact z_ s x ps ids _ (Nat.lt_of_succ_lt_succ hl) h
   ·cases h
  ·cases h
theorem EW:∀(ps:List bc)(n:Nat),(∀i,i<ps.length->kw ps i=decide (n<=i))->ps=(ps.filter fun p=>p.Not==false)++ps.filter fun p=>p.Not==true
 |[],_,_=>rfl
 |p::ps,n+1,h=>by
  have hp:p.Not=false:=(h 0 (Nat.zero_lt_succ _)).trans (decide_eq_false (by omega))
  have ih:=EW ps n (fun i hi=>(h (i+1) (Nat.succ_lt_succ hi)).trans (decide_eq_decide.2 (by omega)))
  rw[List.filter_cons_of_pos (by rw[hp];rfl),List.filter_cons_of_neg (by rw[hp];simp),zex,<-ih]
 |p::ps,0,h=>by
  have ox:∀q∈p::ps,q.Not=true:=by
   intro q hq
   obtain⟨i,hi,rfl⟩:=zG hq
   have:=h i hi
   unfold kw at this
   rw[gh,gr hi] at this
   exact this.trans (decide_eq_true (Nat.zero_le _))
  rw[List.filter_eq_nil_iff.2 (fun q hq=>by rw[ox q hq];simp),List.filter_eq_self.2 (fun q hq=>by rw[ox q hq];rfl),List.nil_append]
theorem vu{r:aw}(h:jD r=true):r.ai=cB r false++cB r true/\1<=(cB r false).length/\(cB r false).length<=3/\(cB r true).length<=6/\r.ai.length<=6/\cz r.ai<=30:=by
 simp only[jD,fY] at h
 have hp:=h.1.1.2
 have ha:=zM hp
 rw[<-vA] at hp
 simp only[kK,fY,decide_eq_true_eq] at hp
 have hs:=EW r.ai (eE r.ai) (fun i hi=>by
  have:=ew.1 hp.2 i hi
  simp only[n_,fY,beq_iff_eq] at this
  exact this.2)
 have hn:(cB r false).length=eE r.ai:=by
  unfold cB eE
  congr 2
  funext p
  cases p.Not<;>rfl
 have hl:(cB r true).length<=r.ai.length:=Lo _ _
 exact⟨hs,by omega,by omega,by omega,by omega,ha⟩
theorem sN:∀{al:List dn}{vs:List cV}{l o:List aW},fi al vs l=some o->∀i,i<al.length->(al.getD i gi).K=2->vs.getD i fL=(al.getD i gi).V
 |[],_,_,_,_,i,hi,_=>absurd hi (Nat.not_lt_zero _)
 |a::al,[],_,_,h,_,_,_=>by cases h
 |a::al,v::vs,l,o,h,i,hi,hk=>by
  simp only[fi] at h
  split at h
  ·rename_i o' ho
   cases i with
   |zero=>
    replace hk:a.K=2:=hk
    simp only[fE,hk,if_true] at ho
    split at ho
    ·rename_i e;exact e.symm
    ·cases ho
   |succ i=>exact sN h i (Nat.lt_of_succ_lt_succ hi) hk
  ·cases h
theorem Ue{α:Type}{a b:List α}{i:Nat}(z:α)(h:i<a.length):(a++b).getD i z=a.getD i z:=by
 rw[gh,u_ h,gh]
theorem abf{α:Type}{a:List α}{x:α}{i:Nat}(z:α)(h:i=a.length):(a++[x]).getD i z=x:=by
 subst h
 rw[gh,va (og _),Rr];rfl
theorem DX(l:List dn):∀n:Nat,n<=l.length->(vW l n).length=(kP (l.take n)).length/\∀i,i<(vW l n).length->∃j,j<n/\(vW l n).getD i 0=(j:Int)/\(l.getD j gi).K=2/\(kP (l.take n)).getD i fL=(l.getD j gi).V
 |0,_=>⟨by simp[vW,kP],fun i hi=>by simp[vW] at hi⟩
 |n+1,h=>by
  obtain⟨h1,h2⟩:=DX l n (by omega)
  have e1:=DW (l:=l) (i:=(n:Int)) (by omega)
  have e2:=tJ (l:=l) (i:=(n:Int)) (by omega) (by omega)
  rw[show((n:Int)+1).toNat=n+1 by omega,zeu] at e1 e2
  by_cases hk:(l.getD n gi).K=2
  ·rw[if_pos hk] at e1 e2
   rw[e1,e2]
   refine⟨by simp[h1],fun i hi=> ?_⟩
   by_cases pE:i<(vW l n).length
   ·obtain⟨j,g1,g2,g3,g4⟩:=h2 i pE
    exact⟨j,by omega,by rw[Ue _ pE];exact g2,g3,by rw[Ue _ (by omega)];exact g4⟩
   ·have od:i=(vW l n).length:=by simp at hi;omega
    exact⟨n,by omega,abf _ od,hk,abf _ (by omega)⟩
  ·rw[if_neg hk,sI] at e1 e2
   rw[e1,e2]
   refine⟨h1,fun i hi=> ?_⟩
   obtain⟨j,g1,g2,g3,g4⟩:=h2 i hi
   exact⟨j,by omega,g2,g3,g4⟩
theorem Ss{p:bc}{f:bf}{l:List aW}(h:(ca p f l).isSome=true):iG (cb p) f=true:=by
 simp only[ca] at h
 split at h
 ·rename_i hk
  obtain⟨o,ho⟩:=kH.1 h
  have hc:=sN ho
  obtain⟨h1,h2⟩:=DX p.aA p.aA.length (og _)
  rw[EM (og _)] at h1 h2
  unfold iG
  rw[decide_eq_true (p:=f.Kind=(cb p).Kind) hk.1,decide_eq_true (p:=(f.ak.length:Int)=(cb p).N) (by show(f.ak.length:Int)=(p.aA.length:Int);omega)]
  refine(Av _).trans (cR fun i hi=> ?_)
  obtain⟨j,g1,g2,g3,g4⟩:=h2 i hi
  have hA:(cb p).At.getD i 0=(j:Int):=g2
  have hC:(cb p).fg.getD i fL=(p.aA.getD j gi).V:=g4
  have od:i<(cb p).fg.length:=by show i<(kP p.aA).length;rw[<-h1];exact hi
  refine vB ⟨by rw[hA];omega,by rw[hA];omega,by omega⟩ ?_
  rw[hA,hC,zeu]
  exact hc j g1 g3
 ·cases h
theorem Kt(l:List bj)(a:bj):0<=fv l a/\fv l a<(oy l a).length/\(oy l a).getD (fv l a).toNat hJ=a/\∃e,oy l a=l++e:=by
 unfold fv oy
 rcases oW l.length (fun j=>decide (l.getD j hJ=a)) with⟨h,_⟩|⟨i,h1,h3,h2,_⟩
 ·have h:VE l a= -1:=h
  rw[h,if_neg (by omega),if_neg (by omega)]
  exact⟨by omega,by simp;omega,by rw[abf _ (by omega)],_,rfl⟩
 ·have h3:VE l a=i:=h3
  rw[h3,if_pos (by omega),if_pos (by omega),zeu]
  exact⟨by omega,by omega,yT h2,[],by simp⟩
def y5(al:List bj)(P:List Int)(ps:List bc):Prop:=P.length=ps.length/\∀k,k<P.length->0<=P.getD k 0/\P.getD k 0<al.length/\al.getD (P.getD k 0).toNat hJ=cb (ps.getD k dl)
theorem y5.more{al e:List bj}{P:List Int}{ps:List bc}(h:y5 al P ps):y5 (al++e) P ps:=
 ⟨h.1,fun k hk=>by
  obtain⟨h1,h2,h3⟩:=h.2 k hk
  exact⟨h1,by rw[kF];omega,by rw[Ue _ (by omega)];exact h3⟩⟩
theorem Iz:∀(l:List bc)(al:List bj)(ps ns:List Int),∃e P Q,mf l al ps ns=(al++e,⟨ps++P,ns++Q⟩)/\y5 (al++e) P (l.filter fun p=>p.Not==false)/\Q.length=(l.filter fun p=>p.Not==true).length
 |[],al,ps,ns=>⟨[],[],[],by simp[mf],⟨rfl,fun k hk=>absurd hk (Nat.not_lt_zero _)⟩,rfl⟩
 |p::r,al,ps,ns=>by
  obtain⟨g1,g2,g3,e1,g4⟩:=Kt al (cb p)
  obtain⟨e,P,Q,h1,h2,h3⟩:=Iz r (oy al (cb p)) (if p.Not=true then ps else ps++[fv al (cb p)]) (if p.Not=true then ns++[fv al (cb p)] else ns)
  have hE:mf (p::r) al ps ns=mf r (oy al (cb p)) (if p.Not=true then ps else ps++[fv al (cb p)]) (if p.Not=true then ns++[fv al (cb p)] else ns):=rfl
  rw[hE,h1]
  cases hp:p.Not with
  |true=>
   refine⟨e1++e,P,fv al (cb p)::Q,by simp[g4],?_,?_⟩
   ·rw[List.filter_cons_of_neg (by rw[hp];simp),<-qc,<-g4];exact h2
   ·rw[List.filter_cons_of_pos (by rw[hp];rfl),iD,iD,h3]
  |false=>
   refine⟨e1++e,fv al (cb p)::P,Q,by simp[g4],?_,?_⟩
   ·rw[List.filter_cons_of_pos (by rw[hp];rfl),<-qc,<-g4]
    refine⟨by rw[iD,iD,h2.1],fun k hk=> ?_⟩
    cases k with
    |zero=>exact⟨g1,by rw[kF];show fv al (cb p)<_;omega,by show List.getD _ (fv al (cb p)).toNat _=_;rw[Ue _ (by omega)];exact g3⟩
    |succ k=>exact h2.2 k (Nat.lt_of_succ_lt_succ hk)
   ·rw[List.filter_cons_of_neg (by rw[hp];simp),h3]
def Jo(al:List bj)(r:aw)(c:bm):Prop:=y5 al c.Pos (cB r false)/\c.Neg.length=(cB r true).length
theorem Ix:∀(l:List aw)(al:List bj)(cs:List bm),∃e D,qJ l al cs=⟨al++e,cs++D⟩/\D.length=l.length/\∀i,i<l.length->Jo (al++e) (l.getD i aP) (D.getD i b_)
 |[],al,cs=>⟨[],[],by simp[qJ],rfl,fun i hi=>absurd hi (Nat.not_lt_zero _)⟩
 |r::rs,al,cs=>by
  obtain⟨e1,P,Q,h1,h2,h3⟩:=Iz r.ai al [] []
  obtain⟨e,D,g1,g2,g3⟩:=Ix rs (mf r.ai al [] []).1 (cs++[(mf r.ai al [] []).2])
  have hE:qJ (r::rs) al cs=qJ rs (mf r.ai al [] []).1 (cs++[(mf r.ai al [] []).2]):=rfl
  rw[h1] at g1 g3
  rw[hE,h1,g1]
  refine⟨e1++e,⟨P,Q⟩::D,by simp,by simp[g2],fun i hi=> ?_⟩
  rw[<-qc]
  cases i with
  |zero=>exact⟨h2.more,h3⟩
  |succ i=>exact g3 i (Nat.lt_of_succ_lt_succ hi)
theorem ua(d:bY):(bg d).aC.length=d.af.length/\∀i,i<d.af.length->Jo (bg d).ab (d.af.getD i aP) ((bg d).aC.getD i b_):=by
 obtain⟨e,D,h1,h2,h3⟩:=Ix d.af [] []
 unfold bg
 rw[h1]
 exact⟨h2,h3⟩
def e9(c:bm)(k:Nat):Nat:=(c.Pos.getD k 0).toNat
def qE(r:aw)(c:bm)(al:List b7)(s:List bW)(id:Int)(th:List Bool)(last:Bool)(k:Nat)(p f:List au):List au:=
 ((if k=0 then(if th.getD (e9 c 0) false=true then fP r s [] id else[]) else(if th.getD (e9 c k) false=true then p.flatMap (fun t=>fP r s t.b9 id) else[]))++
 f.flatMap (fun t=>(al.getD (e9 c k) cS).L.flatMap (fP r s t.b9))).map (fun t=>if last=true then mw r s t else t)
def Kv(l:List aq)(q:List au)(k:Int):Int:=if 0<k then((l.getD (k-1).toNat aB).bi.length:Int)-(q.length:Int) else 0
def qG(r:aw)(c:bm)(al:List b7)(s:List bW)(id:Int)(th:List Bool):Nat->List aq->List au->List au->List aq
 |_,[],_,_=>[]
 |k,v::vs,p,f=>⟨v.bi++qE r c al s id th vs.isEmpty k p f⟩::qG r c al s id th (k+1) vs v.bi (qE r c al s id th vs.isEmpty k p f)
def nJ(r:aw)(s:List bW)(f:bf)(l:List aq):List aq:=l.set (l.length-1) ⟨(l.getD (l.length-1) aB).bi.map (pK r s f 1)⟩
def pN(r:aw)(c:bm)(al:List b7)(s:List bW)(id:Int)(th:List Bool):Nat->List aq->List au->List au->Prop
 |_,[],_,_=>True
 |k,v::vs,p,f=>k<r.ai.length/\k<c.Pos.length/\0<=c.Pos.getD k 0/\c.Pos.getD k 0<al.length/\c.Pos.getD k 0<th.length/\(∀t∈p,t.b9.length=k)/\(∀t∈f,t.b9.length=k)/\
  v.bi.length+(1+p.length+f.length+f.length*(al.getD (e9 c k) cS).L.length)<=4294967295/\pN r c al s id th (k+1) vs v.bi (qE r c al s id th vs.isEmpty k p f)
def oJ(r:aw)(c:bm)(s:List bW)(id:Int)(th:List Bool)(k:Nat)(p:List au):List au:=if k=0 then(if th.getD (e9 c 0) false=true then fP r s [] id else[]) else(if th.getD (e9 c k) false=true then p.flatMap (fun t=>fP r s t.b9 id) else[])
def CN(r:aw)(c:bm)(al:List b7)(s:List bW)(id:Int)(th:List Bool)(n:Nat)(R:List aq)(k:Int)(l:List aq)(q p:List au):Prop:=0<=k/\k<=l.length/\l.length=n/\(k=0->p=[]/\q=[])/\(0<k->(l.getD (k-1).toNat aB).bi=p++q)/\l.take k.toNat++qG r c al s id th k.toNat (l.drop k.toNat) p q=R/\pN r c al s id th k.toNat (l.drop k.toNat) p q
theorem zK(r:aw)(c:bm)(al:List b7)(s:List bW)(id:Int)(th:List Bool):∀(l:List aq)(k:Nat)(p f:List au),pN r c al s id th k l p f->l=[]\/k+l.length<=r.ai.length
 |[],_,_,_,_=> .inl rfl
 |v::l,k,p,f,h=>by
  rcases zK r c al s id th l (k+1) _ _ h.2.2.2.2.2.2.2.2 with e|e
  ·subst e;exact .inr h.1
  ·refine .inr ?_
   rw[iD];omega
theorem LR(r:aw)(s:List bW)(ids:List Int)(x:Int):(fP r s ids x).length<=1:=by
 unfold fP;split<;>simp
def pn(r:aw)(c:bm)(al:List b7)(s:List bW)(k:Nat)(f:List au):List au:=f.flatMap (fun t=>(al.getD (e9 c k) cS).L.flatMap (fP r s t.b9))
theorem Ke(r:aw)(c:bm)(al:List b7)(s:List bW)(id:Int)(th:List Bool)(k:Nat)(p f:List au):qE r c al s id th true k p f=(oJ r c s id th k p++pn r c al s k f).map (mw r s):=by
 unfold qE oJ pn;simp only[if_true]
theorem Ie(r:aw)(c:bm)(al:List b7)(s:List bW)(id:Int)(th:List Bool)(k:Nat)(p f:List au):qE r c al s id th false k p f=oJ r c s id th k p++pn r c al s k f:=by
 unfold qE oJ pn
 simp only[yN,if_false]
 exact List.map_id' _
theorem MN(r:aw)(c:bm)(s:List bW)(id:Int)(th:List Bool)(k:Nat)(p:List au):(oJ r c s id th k p).length<=1+p.length:=by
 have h1:=LR r s [] id
 have h2:=kB (fun t:au=>fP r s t.b9 id) 1 p (fun t _=>LR r s t.b9 id)
 unfold oJ
 split
 ·split
  ·omega
  ·simp
 ·split
  ·omega
  ·simp
theorem IG(r:aw)(s:List bW)(ids items:List Int):(items.flatMap (fP r s ids)).length<=items.length:=by
 have:=kB (fP r s ids) 1 items (fun x _=>LR r s ids x)
 omega
theorem Kf{r:aw}{c:bm}{al:List b7}{s:List bW}{id:Int}{th:List Bool}{n:Nat}{R:List aq}{k:Int}{l:List aq}{q p nx:List au}(J:CN r c al s id th n R k l q p)(hk:k<l.length)
  (hn:nx=qE r c al s id th (l.drop (k.toNat+1)).isEmpty k.toNat p q):CN r c al s id th n R (k+1) (l.set k.toNat ⟨(l.getD k.toNat aB).bi++nx⟩) nx (l.getD k.toNat aB).bi:=by
 obtain⟨j1,j2,j3,j4,j5,j6,j7⟩:=J
 have sP:k.toNat<l.length:=by omega
 have hd:l.drop k.toNat=l.getD k.toNat aB::l.drop (k.toNat+1):=vo aB sP
 rw[hd] at j6 j7
 obtain⟨_,_,_,_,_,_,_,_,o9⟩:=j7
 obtain⟨t1,t2⟩:=Lt (⟨(l.getD k.toNat aB).bi++nx⟩:aq) sP
 have e:(k+1).toNat=k.toNat+1:=by omega
 refine⟨by omega,by rw[zF];omega,by rw[zF];exact j3,fun h=>by omega,fun _=> ?_,?_,?_⟩
 ·rw[show(k+1-1).toNat=k.toNat by omega,GK _ _ sP]
 ·rw[e,t1,t2,<-j6,qc,hn];rfl
 ·rw[e,t2,hn];exact o9
theorem wz{r:aw}{c:bm}{al:List b7}{s:List bW}{id:Int}{th:List Bool}{n:Nat}{R:List aq}{k:Int}{l:List aq}{q p:List au}(J:CN r c al s id th n R k l q p)(hk:k<l.length):
  k.toNat<r.ai.length/\k.toNat<c.Pos.length/\0<=c.Pos.getD k.toNat 0/\c.Pos.getD k.toNat 0<al.length/\c.Pos.getD k.toNat 0<th.length/\(∀t∈p,t.b9.length=k.toNat)/\(∀t∈q,t.b9.length=k.toNat)/\
  (l.getD k.toNat aB).bi.length+(1+p.length+q.length+q.length*(al.getD (e9 c k.toNat) cS).L.length)<=4294967295:=by
 obtain⟨j1,j2,j3,j4,j5,j6,j7⟩:=J
 have hd:l.drop k.toNat=l.getD k.toNat aB::l.drop (k.toNat+1):=vo aB (by omega)
 rw[hd] at j7
 obtain⟨o1,o2,o3,o4,o5,o6,o7,o8,_⟩:=j7
 exact⟨o1,o2,o3,o4,o5,o6,o7,o8⟩
def EP(B:Int)(N k h:Nat)(t:au):Prop:=t.b9.length=k+1/\t.db.length=h/\(∀x∈t.b9,x<B)/\∀a∈t.db,0<=a/\a<=(N:Int)
def IB(B:Int)(N k h:Nat)(l:List au):Prop:=(l.map au.b9).Nodup/\l.length<=N*80^k/\∀t∈l,EP B N k h t
def tr(B:Int)(N n h:Nat):Nat->List aq->Prop
 |k,[]=>k=n
 |k,v::vs=>IB B N k (if k+1=n then h else 0) v.bi/\tr B N n h (k+1) vs
theorem qM{B:Int}{N n h:Nat}:∀{l:List aq}{k:Nat},tr B N n h k l->k+l.length=n
 |[],_,e=>e
 |v::l,k,e=>by
  have:=qM e.2
  rw[iD];omega
def abg(id:Int)(N k h:Nat)(f:List au):Prop:=(f.map au.b9).Nodup/\f.length<=80^k/\∀t∈f,EP (id+1) N k h t/\id∈t.b9
def OZ(B id:Int)(N:Nat):Nat->List au->List au->Prop
 |0,b,f=>b=[]/\f=[]
 |k+1,b,f=>IB B N k 0 b/\abg id (N+1) k 0 f
theorem tt(g:bh)(ids:List Int)(x:Int):pR g ids x=[]\/∃H,pR g ids x=[⟨ids++[x],H⟩]/\(aY g.s.aa g.bH (ids++[x]) []).2=true/\
  H=if ids.length+1=g.bH.length then g.ey.map fun p=>(ja p g.s.aa (aY g.s.aa g.bH (ids++[x]) []).1:Int) else[]:=by
 unfold pR
 split
 ·rename_i hb
  exact .inr ⟨_,rfl,hb,by rw[kF];rfl⟩
 ·exact .inl rfl
theorem y8(g:bh)(ids:List Int)(it:List Int):List.Sublist ((dZ g ids it).map au.b9) (it.map fun x=>ids++[x]):=by
 have:=wX au.b9 (pR g ids) (fun x=>[ids++[x]]) (fun x=>by
  rcases tt g ids x with e|⟨H,e,_⟩<;>rw[e]
  ·exact List.nil_sublist _
  ·exact Ou _) it
 refine this.trans ?_
 rw[List.map_eq_flatMap]
 exact Ou _
theorem ub{g:bh}{ids it:List Int}{t:au}(h:t∈dZ g ids it):∃x∈it,t.b9=ids++[x]/\t.db=if ids.length+1=g.bH.length then g.ey.map fun p=>(ja p g.s.aa (aY g.s.aa g.bH (ids++[x]) []).1:Int) else[]:=by
 obtain⟨x,hx,ht⟩:=ln.1 h
 rcases tt g ids x with e|⟨H,e,_,hH⟩<;>rw[e] at ht
 ·cases ht
 ·rw[g_] at ht
  subst ht
  exact⟨x,hx,rfl,hH⟩
theorem P9(p:bc)(s:List bW)(l:List aW):ja p s l<=s.length:=Lo _ _
theorem C4{g:bh}{ids it:List Int}{t:au}(h:t∈dZ g ids it){N k:Nat}{id:Int}(hn:g.s.aa.length<=N)(hk:ids.length=k)(hi:∀x∈ids,x<id+1)(ht:∀x∈it,x<id+1):
  EP (id+1) N k (if k+1=g.bH.length then g.ey.length else 0) t:=by
 obtain⟨x,hx,h1,h2⟩:=ub h
 subst hk
 refine⟨by rw[h1,kF];rfl,?_,fun y hy=> ?_,fun a ha=> ?_⟩
 ·rw[h2];split
  ·rw[wj]
  ·rfl
 ·rw[h1,gA,g_] at hy
  rcases hy with hy|rfl
  ·exact hi y hy
  ·exact ht _ hx
 ·rw[h2] at ha
  split at ha
  ·obtain⟨p,_,rfl⟩:=jX.1 ha
   have:=P9 p g.s.aa (aY g.s.aa g.bH (ids++[x]) []).1
   omega
  ·cases ha
theorem Qt{g:bh}{B:Int}{N k:Nat}{b f:List au}(hN:N<40)(hB:B<=g.id)(hs:g.s.aa.length=N+1)(hp:OZ B g.id N k b f)
  (hm:(gq g k).Nodup/\(gq g k).length<=N+1/\∀x∈gq g k,x<g.id+1):abg g.id (N+1) k (if k+1=g.bH.length then g.ey.length else 0) (qV g k b f):=by
 obtain⟨m1,m2,m3⟩:=hm
 cases k with
 |zero=>
  obtain⟨rfl,rfl⟩:=hp
  have e:qV g 0 [] []=dZ g [] [g.id]:=if_pos rfl
  rw[e]
  refine⟨(y8 g [] [g.id]).nodup (by simp),mZ g [] [g.id],fun t ht=>⟨C4 ht (by omega) rfl (by simp) (by simp;omega),?_⟩⟩
  obtain⟨x,hx,h1,_⟩:=ub ht
  rw[g_] at hx
  rw[h1,hx];simp
 |succ k=>
  obtain⟨⟨b1,b2,b3⟩,f1,f2,f3⟩:=hp
  have e:qV g (k+1) b f=b.flatMap (fun t=>dZ g t.b9 [g.id])++f.flatMap (fun t=>dZ g t.b9 (gq g (k+1))):=if_neg (by omega)
  rw[e]
  refine⟨?_,?_,fun t ht=> ?_⟩
  ·have s1:=wX au.b9 (fun t:au=>dZ g t.b9 [g.id]) (fun t=>[g.id].map fun x=>t.b9++[x]) (fun t=>y8 g t.b9 [g.id]) b
   have s2:=wX au.b9 (fun t:au=>dZ g t.b9 (gq g (k+1))) (fun t=>(gq g (k+1)).map fun x=>t.b9++[x]) (fun t=>y8 g t.b9 _) f
   rw[Em]
   refine(s1.append s2).nodup ?_
   rw[nH]
   refine⟨vC au.b9 (by simp) b1,vC au.b9 m1 f1,fun x hx y hy e=> ?_⟩
   obtain⟨t,ht,hx⟩:=ln.1 hx
   obtain⟨t',Ei,hy⟩:=ln.1 hy
   obtain⟨u,_,rfl⟩:=jX.1 hx
   obtain⟨u',_,rfl⟩:=jX.1 hy
   have:=(f3 t' Ei).2
   rw[<-(CG e).1] at this
   have:=(b3 t ht).2.2.1 _ this
   omega
  ·rw[kF]
   have l1:=kB (fun t:au=>dZ g t.b9 [g.id]) 1 b (fun x _=>mZ g x.b9 [g.id])
   have l2:=kB (fun t:au=>dZ g t.b9 (gq g (k+1))) (N+1) f (fun x _=>En (mZ g x.b9 _) m2)
   have l3:f.length*(N+1)<=80^k*(N+1):=u9 _ f2
   have l4:80^(k+1)=80^k*80:=Nat.pow_succ ..
   have l5:N*80^k+80^k*(N+1)=80^k*(2*N+1):=by rw[RR N,<-Nat.mul_add];congr 1;omega
   have l6:80^k*(2*N+1)<=80^k*80:=Nat.mul_le_mul_left _ (by omega)
   omega
  ·rw[gA] at ht
   rcases ht with ht|ht
   ·obtain⟨t',Ei,ht⟩:=ln.1 ht
    have q:=b3 t' Ei
    refine⟨C4 ht (by omega) q.1 (fun x hx=>by have:=q.2.2.1 x hx;omega) (by simp;omega),?_⟩
    obtain⟨x,hx,h1,_⟩:=ub ht
    rw[g_] at hx
    rw[h1,hx];simp
   ·obtain⟨t',Ei,ht⟩:=ln.1 ht
    have q:=f3 t' Ei
    refine⟨C4 ht (by omega) q.1.1 q.1.2.2.1 m3,?_⟩
    obtain⟨x,hx,h1,_⟩:=ub ht
    rw[h1];exact oE _ q.2
theorem aal{B id:Int}{N k h:Nat}{l f:List au}(hB:B<=id)(hl:IB B (N+1) k h l)(hn:l.length<=N*80^k)(hf:abg id (N+1) k h f):IB (id+1) (N+1) k h (l++f):=by
 obtain⟨l1,_,l3⟩:=hl
 obtain⟨f1,f2,f3⟩:=hf
 refine⟨?_,?_,fun t ht=> ?_⟩
 ·rw[Em,nH]
  refine⟨l1,f1,fun x hx y hy e=> ?_⟩
  obtain⟨t,ht,rfl⟩:=jX.1 hx
  obtain⟨t',Ei,rfl⟩:=jX.1 hy
  have h1:=(f3 t' Ei).2
  rw[<-e] at h1
  have:=(l3 t ht).2.2.1 _ h1
  omega
 ·rw[kF,ta];omega
 ·rw[gA] at ht
  rcases ht with ht|ht
  ·obtain⟨q1,q2,q3,q4⟩:=l3 t ht
   exact⟨q1,q2,fun x hx=>by have:=q3 x hx;omega,q4⟩
  ·exact(f3 t ht).1
def qy(f:bf)(na:List bj):List Bool:=na.map fun x=>iG x f
def D4(d:bY)(n:dE)(al:List b7)(s:ap)(id:Int)(f:bf):Nat->List dR->List dR
 |_,[]=>[]
 |i,r::rs=>⟨qG (d.af.getD i aP) (n.aC.getD i b_) al s.aa id (qy f n.ab) 0 (nJ (d.af.getD i aP) s.aa f r.ao) [] []⟩::D4 d n al s id f (i+1) rs
def CP(d:bY)(n:dE)(al:List b7)(s:ap)(id:Int)(f:bf)(i:Nat)(r:dR):Prop:=i<n.aC.length/\(d.af.getD i aP).ai.length<=4294967295/\cz (d.af.getD i aP).ai<=2147483647/\0<r.ao.length/\
 oH (d.af.getD i aP).ai.length (cB (d.af.getD i aP) true).length (r.ao.getD (r.ao.length-1) aB).bi/\pN (d.af.getD i aP) (n.aC.getD i b_) al s.aa id (qy f n.ab) 0 (nJ (d.af.getD i aP) s.aa f r.ao) [] []
theorem tP(d:bY)(n:dE)(al:List b7)(s:ap)(id:Int)(f:bf):∀(l:List dR)(i:Nat),(D4 d n al s id f i l).length=l.length
 |[],_=>rfl
 |_::l,i=>congrArg (·+1) (tP d n al s id f l (i+1))
theorem D3(d:bY)(n:dE)(al:List b7)(s:ap)(id:Int)(f:bf):∀(l:List dR)(i k:Nat),k<l.length->(D4 d n al s id f i l).getD k bt=⟨qG (d.af.getD (i+k) aP) (n.aC.getD (i+k) b_) al s.aa id (qy f n.ab) 0 (nJ (d.af.getD (i+k) aP) s.aa f (l.getD k bt).ao) [] []⟩
 |[],_,_,h=>absurd h (Nat.not_lt_zero _)
 |_::l,i,0,_=>rfl
 |_::l,i,k+1,h=>by
  have:=D3 d n al s id f l (i+1) k (Nat.lt_of_succ_lt_succ h)
  rw[show i+1+k=i+(k+1) by omega] at this
  exact this
def Gk(B:Int)(N n h:Nat):Nat->List aq->Prop
 |k,[]=>k=n
 |k,v::vs=>IB B (N+1) k (if k+1=n then h else 0) v.bi/\v.bi.length<=N*80^k/\Gk B N n h (k+1) vs
theorem vF{B:Int}{N n h:Nat}:∀{l:List aq}{k:Nat},Gk B N n h k l->k+l.length=n
 |[],_,e=>e
 |v::l,k,e=>by
  have:=vF e.2.2
  rw[iD];omega
theorem S5{B:Int}{N k:Nat}{l:List au}(h:IB B (N+1) k 0 l)(hl:l.length<=N*80^k):IB B N k 0 l:=
 ⟨h.1,hl,fun t ht=>by
  obtain⟨q1,q2,q3,q4⟩:=h.2.2 t ht
  exact⟨q1,q2,q3,fun a ha=>by rw[yG q2] at ha;cases ha⟩⟩
def Sq(g:bh)(n:Nat):Prop:=∀k,k<n->k<g.chain.Pos.length/\0<=g.chain.Pos.getD k 0/\g.chain.Pos.getD k 0<g.mem.length
def S4(g:bh)(N n:Nat):Prop:=∀k,k<n->(gq g k).Nodup/\(gq g k).length<=N+1/\∀x∈gq g k,x<g.id+1
theorem L8{g:bh}{B:Int}{N:Nat}(hN:N<40)(PR:g.bH.length<=3)(hB:B<=g.id)(hs:g.s.aa.length=N+1)(hpi:Sq g g.bH.length)(VP:S4 g N g.bH.length):
  ∀(ls:List aq)(k:Nat)(b f:List au),Gk B N g.bH.length g.ey.length k ls->(ls≠[]->OZ B g.id N k b f)->ql g k ls b f/\tr (g.id+1) (N+1) g.bH.length g.ey.length k (pk g k ls b f)
 |[],k,b,f,h,_=>⟨trivial,h⟩
 |v::vs,k,b,f,⟨h1,h2,h3⟩,hp=>by
  have hp:=hp (by simp)
  have hk:=vF h3
  have tG:k<g.bH.length:=by omega
  obtain⟨p1,p2,p3⟩:=hpi k tG
  have hm:=VP k tG
  have hg:=Qt hN hB hs hp hm
  obtain⟨r1,r2⟩:=L8 hN PR hB hs hpi VP vs (k+1) v.bi (qV g k b f) h3 (fun cO=>by
   have hl:0<vs.length:=List.length_pos_iff.2 cO
   rw[if_neg (by omega)] at h1 hg
   exact⟨S5 h1 h2,hg⟩)
  have hlen:(∀t∈b,t.b9.length=k)/\(∀t∈f,t.b9.length=k)/\v.bi.length+(1+b.length+f.length+f.length*(gq g k).length)<=4294967295:=by
   cases k with
   |zero=>
    obtain⟨rfl,rfl⟩:=hp
    simp only[Nat.pow_zero,Nat.mul_one] at h2
    exact⟨by simp,by simp,by simp only[ii,Nat.zero_mul];omega⟩
   |succ k=>
    obtain⟨⟨_,b2,b3⟩,_,f2,f3⟩:=hp
    refine⟨fun t ht=>(b3 t ht).1,fun t ht=>(f3 t ht).1.1,?_⟩
    have hmul:f.length*(gq g (k+1)).length<=80^k*(N+1):=Nat.mul_le_mul f2 hm.2.1
    have wT:k=0\/k=1:=by omega
    rcases wT with rfl|rfl<;>simp only[Nat.pow_zero,Nat.pow_one,oz,show(80:Nat)^(1+1)=6400 from rfl] at* <;>omega
  exact⟨⟨tG,p1,p2,p3,hlen.1,hlen.2.1,hlen.2.2,r1⟩,aal hB h1 h2 hg,r2⟩
theorem QJ(g:bh)(v:aq):zo g [v]=[⟨v.bi.map (qn g 1)⟩]:=rfl
theorem NV(g:bh)(v w:aq)(vs:List aq):zo g (v::w::vs)=v::zo g (w::vs):=rfl
theorem DR(g:bh)(t:au):(qn g 1 t).b9=t.b9:=by unfold qn;split<;>rfl
theorem FR{α β γ:Type}(F:α->β->γ)(P:γ->Prop):∀(H:List α)(L:List β),(∀a∈H,∀p∈L,P (F a p))->∀x∈List.zipWith F H L,P x
 |[],_,_,x,hx=>by simp at hx
 |_::_,[],_,x,hx=>by simp at hx
 |a::H,p::L,h,x,hx=>by
  rw[List.zipWith_cons_cons,h_] at hx
  rcases hx with rfl|hx
  ·exact h a cH p cH
  ·exact FR F P H L (fun a ha p hp=>h a (aJ _ ha) p (aJ _ hp)) x hx
theorem EL{α β γ:Type}(F G:α->β->γ):∀(H:List α)(L:List β),(∀a∈H,∀p∈L,F a p=G a p)->List.zipWith F H L=List.zipWith G H L
 |[],_,_=>by simp
 |_::_,[],_=>by simp
 |a::H,p::L,h=>by
  rw[List.zipWith_cons_cons,List.zipWith_cons_cons,h a cH p cH,EL F G H L fun a ha p hp=>h a (aJ _ ha) p (aJ _ hp)]
theorem Ur{g:bh}{B:Int}{N k:Nat}{t:au}(hN:N<40)(h:EP B N k g.ey.length t):EP B (N+1) k g.ey.length (qn g 1 t):=by
 obtain⟨h1,h2,h3,h4⟩:=h
 refine⟨by rw[DR];exact h1,?_,by rw[DR];exact h3,?_⟩
 ·unfold qn;split
  ·simp only[List.length_zipWith,h2,Nat.min_self]
  ·exact h2
 ·unfold qn;split
  ·refine FR _ _ _ _ fun a ha p _=> ?_
   have:=h4 a ha
   split
   ·rw[wi];omega
   ·omega
  ·intro a ha;have:=h4 a ha;omega
theorem LN{g:bh}{B:Int}{N:Nat}(hN:N<40):∀(ls:List aq)(k:Nat),tr B N g.bH.length g.ey.length k ls->Gk B N g.bH.length g.ey.length k (zo g ls)
 |[],k,h=>h
 |[v],k,⟨⟨h1,h2,h3⟩,h4⟩=>by
  replace h4:k+1=g.bH.length:=h4
  rw[if_pos h4] at h3
  rw[QJ]
  refine⟨⟨?_,?_,?_⟩,by rw[wj];exact h2,h4⟩
  ·rw[List.map_map]
   have:(au.b9∘qn g 1)=au.b9:=funext fun t=>DR g t
   rw[this];exact h1
  ·rw[wj]
   exact En h2 (u9 _ (by omega))
  ·rw[if_pos h4]
   intro t ht
   obtain⟨t',Ei,rfl⟩:=jX.1 ht
   exact Ur hN (h3 t' Ei)
 |v::w::vs,k,⟨⟨h1,h2,h3⟩,h4⟩=>by
  rw[NV]
  refine⟨⟨h1,En h2 (u9 _ (by omega)),fun t ht=> ?_⟩,h2,LN hN (w::vs) (k+1) h4⟩
  obtain⟨q1,q2,q3,q4⟩:=h3 t ht
  exact⟨q1,q2,q3,fun a ha=>by have:=q4 a ha;omega⟩
structure vv(g:bh)(r:aw)(c:bm)(al:List b7)(s:ap)(id:Int)(na:List bj):Prop where
 bH:g.bH=cB r false
 ey:g.ey=cB r true
 chain:g.chain=c
 mem:g.mem=al
 s:g.s=s
 id:g.id=id
 split:r.ai=cB r false++cB r true
 len:na.length=al.length
 fit:y5 na c.Pos (cB r false)
theorem y_{g:bh}{r:aw}{c:bm}{al:List b7}{s:ap}{id:Int}{na:List bj}(A:vv g r c al s id na){ids:List Int}{x:Int}{last:Bool}(hk:ids.length<g.bH.length)(hl:last=decide (ids.length+1=g.bH.length)):
  (fP r s.aa ids x).map (fun t=>if last=true then mw r s.aa t else t)=pR g ids x:=by
 have hb:aY s.aa r.ai (ids++[x]) []=aY s.aa g.bH (ids++[x]) []:=by
  rw[A.split,<-A.bH]
  exact vU _ _ _ _ _ (by rw[kF];simp;omega)
 unfold fP pR
 rw[hb,A.s]
 by_cases hq:(aY s.aa g.bH (ids++[x]) []).2=true
 ·rw[if_pos hq,if_pos hq,rl,List.map_nil,hl]
  have hlen:(ids++[x]).length=ids.length+1:=kF
  by_cases hn:ids.length+1=g.bH.length
  ·rw[if_pos (decide_eq_true hn),if_pos (hlen.trans hn)]
   simp only[mw,hb,sQ,<-A.ey]
  ·rw[if_neg (by rw[decide_eq_false hn];exact Bool.false_ne_true),if_neg (by rw[hlen];exact hn)]
 ·rw[if_neg hq,if_neg hq,List.map_nil]
theorem Ib{g:bh}{r:aw}{c:bm}{al:List b7}{s:ap}{id:Int}{na:List bj}(A:vv g r c al s id na){ids:List Int}(hk:ids.length<g.bH.length)(h:(qy (ax s.aa id) na).getD (e9 c ids.length) false=false):pR g ids id=[]:=by
 have bp:ids.length<c.Pos.length:=by rw[A.fit.1,<-A.bH];exact hk
 obtain⟨q1,q2,q3⟩:=A.fit.2 ids.length bp
 rcases tt g ids id with e|⟨H,_,hb,_⟩
 ·exact e
 ·exfalso
  obtain⟨l',zh⟩:=z_ g.s.aa id g.bH ids [] hk hb
  have hp:=Ss zh
  rw[A.bH,<-q3,A.s] at hp
  have fx:(c.Pos.getD ids.length 0).toNat<na.length:=by omega
  have:(qy (ax s.aa id) na).getD (e9 c ids.length) false=iG (na.getD (c.Pos.getD ids.length 0).toNat hJ) (ax s.aa id):=by
   unfold qy e9
   generalize (c.Pos.getD ids.length 0).toNat=j at fx
   rw[gh,mE,gr fx,gh,gr fx];rfl
  rw[this,hp] at h
  cases h
theorem rM{α β:Type}{F G:α->List β}:∀{l:List α},(∀x∈l,F x=G x)->l.flatMap F=l.flatMap G
 |[],_=>rfl
 |x::l,h=>by rw[tV,tV,h x cH,rM fun y hy=>h y (aJ _ hy)]
theorem Pn(g:bh)(ids:List Int)(x:Int):dZ g ids [x]=pR g ids x:=by unfold dZ;simp
theorem OL{g:bh}{r:aw}{c:bm}{al:List b7}{s:ap}{id:Int}{na:List bj}(A:vv g r c al s id na){k:Nat}{b f:List au}{last:Bool}(hk:k<g.bH.length)(hl:last=decide (k+1=g.bH.length))(h0:k=0->b=[]/\f=[])
  (hb:∀t∈b,t.b9.length=k) (hf:∀t∈f,t.b9.length=k):qE r c al s.aa id (qy (ax s.aa id) na) last k b f=qV g k b f:=by
 unfold qE qV
 rw[A.id]
 by_cases hz:k=0
 ·obtain⟨rfl,rfl⟩:=h0 hz
  subst hz
  rw[if_pos rfl,if_pos rfl,Vo,sI,Pn]
  by_cases Rz:(qy (ax s.aa id) na).getD (e9 c 0) false=true
  ·rw[if_pos Rz];exact y_ A (ids:=[]) hk hl
  ·rw[if_neg Rz,List.map_nil]
   exact(Ib A (ids:=[]) hk (by simpa using Rz)).symm
 ·rw[if_neg hz,if_neg hz,Em]
  congr 1
  ·by_cases Rz:(qy (ax s.aa id) na).getD (e9 c k) false=true
   ·rw[if_pos Rz,List.map_flatMap]
    exact rM fun t ht=>by rw[Pn];exact y_ A (by rw[hb t ht];exact hk) (by rw[hb t ht];exact hl)
   ·rw[if_neg Rz,List.map_nil]
    refine(List.flatMap_eq_nil_iff.2 fun t ht=> ?_).symm
    rw[Pn]
    exact Ib A (by rw[hb t ht];exact hk) (by rw[hb t ht];simpa using Rz)
  ·rw[List.map_flatMap]
   refine rM fun t ht=> ?_
   rw[List.map_flatMap]
   unfold dZ gq e9
   rw[A.chain,A.mem]
   exact rM fun x _=>y_ A (by rw[hf t ht];exact hk) (by rw[hf t ht];exact hl)
theorem Lz{g:bh}{r:aw}{c:bm}{al:List b7}{s:ap}{id:Int}{na:List bj}(A:vv g r c al s id na):∀(ls:List aq)(k:Nat)(b f:List au),ql g k ls b f->k+ls.length=g.bH.length->(k=0->b=[]/\f=[])->
  pN r c al s.aa id (qy (ax s.aa id) na) k ls b f/\qG r c al s.aa id (qy (ax s.aa id) na) k ls b f=pk g k ls b f
 |[],k,b,f,_,_,_=>⟨trivial,rfl⟩
 |v::vs,k,b,f,⟨o1,o2,o3,o4,o5,o6,o7,o8⟩,hk,h0=>by
  rw[iD] at hk
  have E7:vs.isEmpty=decide (k+1=g.bH.length):=by
   cases vs with
   |nil=>exact(decide_eq_true (by simpa using hk)).symm
   |cons w vs=>exact(decide_eq_false (by rw[iD] at hk;omega)).symm
  have e:=OL A o1 E7 h0 o5 o6
  obtain⟨r1,r2⟩:=Lz A vs (k+1) v.bi (qV g k b f) o8 (by omega) (fun h=>by omega)
  have hm:gq g k=(al.getD (e9 c k) cS).L:=by unfold gq e9;rw[A.chain,A.mem]
  rw[A.chain] at o2 o3 o4
  rw[A.mem] at o4
  rw[hm] at o7
  refine⟨⟨?_,o2,o3,o4,?_,o5,o6,o7,by rw[e];exact r1⟩,?_⟩
  ·rw[A.split,kF,<-A.bH];omega
  ·unfold qy;rw[wj,A.len];exact o4
  ·show aq.mk _::_=aq.mk _::_
   rw[e,r2]
theorem QI{g:bh}{r:aw}{c:bm}{al:List b7}{s:ap}{id:Int}{na:List bj}(A:vv g r c al s id na){B:Int}{N k:Nat}(hN:N<40){t:au}(h:EP B N k g.ey.length t)(hk:k<g.bH.length):pK r s.aa (ax s.aa id) 1 t=qn g 1 t:=by
 have hb:aY s.aa r.ai t.b9 []=aY s.aa g.bH t.b9 []:=by
  rw[A.split,<-A.bH]
  exact vU _ _ _ _ _ (by rw[h.1];omega)
 unfold pK qn
 rw[hb,A.s,A.id]
 split
 ·congr 1
  unfold Le ow
  rw[List.zipWith_map_right,A.ey]
  refine EL _ _ _ _ fun a ha p _=> ?_
  have:=h.2.2.2 a ha
  split
  ·rw[wi (n:=1*1)];rfl
  ·rw[wi (n:=1*0),wi];omega
 ·rfl
theorem H_{g:bh}{r:aw}{c:bm}{al:List b7}{s:ap}{id:Int}{na:List bj}(A:vv g r c al s id na){B:Int}{N:Nat}(hN:N<40):∀(ls:List aq)(k:Nat),tr B N g.bH.length g.ey.length k ls->nJ r s.aa (ax s.aa id) ls=zo g ls
 |[],_,_=>rfl
 |[v],k,⟨⟨h1,h2,h3⟩,h4⟩=>by
  replace h4:k+1=g.bH.length:=h4
  rw[if_pos h4] at h3
  show[aq.mk (v.bi.map (pK r s.aa (ax s.aa id) 1))]=[aq.mk (v.bi.map (qn g 1))]
  rw[Lp fun t ht=>QI A hN (h3 t ht) (by omega)]
 |v::w::vs,k,⟨_,h4⟩=>by
  have:=H_ A hN (w::vs) (k+1) h4
  show v::nJ r s.aa (ax s.aa id) (w::vs)=v::zo g (w::vs)
  rw[this]
def W9:=bE (α:=aw×bm×df×Int×ap×Int×bf×(List Bool)) (qC (qA .cw) (qC (qA .ci) (qC (qX .jU) (qC qI (qC (qA .dW) (qC qI (qC (qA .eP) (q1 (qL .bool))))))))) [.ro,.ro,.box true,.ro,.ro,.ro,.ro,.ro] (fun(r,c,m,j,s,id,f,through)=>[aj s.aa<=4294967295,cz r.ai<=2147483647,r.ai.length<=4294967295,0<=j,j<m.af.length,0<(m.af.getD j.toNat bt).ao.length,oH r.ai.length (cB r true).length ((m.af.getD j.toNat bt).ao.getD ((m.af.getD j.toNat bt).ao.length-1) aB).bi,pN r c m.ab s.aa id through 0 (nJ r s.aa f (m.af.getD j.toNat bt).ao) [] []]) (fun(r,c,m,j,s,id,f,through)=>⟨[],[],[dX .jU (⟨m.ab,m.af.set j.toNat ⟨qG r c m.ab s.aa id through 0 (nJ r s.aa f (m.af.getD j.toNat bt).ao) [] []⟩⟩:df)]⟩)
def uU(r:aw)(c:bm)(m:df)(j:Int)(s:ap)(id:Int)(f:bf)(through:List Bool):Int×List aq×List au×(List b7×we×Unit)×T0×T6×T5×T2×Unit->Prop:=fun(k,l,q,m',b,c',e,g,_)=>b=(r.Name,r.mM,r.ai,r.bA,r.cp,())/\c'=(c.Pos,c.Neg,())/\e=(s.aa,s.Next,())/\g=(f.Kind,f.ak,())/\m'.1=m.ab/\m'.2.1.1=m.af/\m'.2.1.2=j.toNat/\∃p,CN r c m.ab s.aa id through (m.af.getD j.toNat bt).ao.length (qG r c m.ab s.aa id through 0 (nJ r s.aa f (m.af.getD j.toNat bt).ao) [] []) k l q p
def sr(r:aw)(c:bm)(m:df)(j:Int)(s:ap)(id:Int)(f:bf)(through:List Bool):Int×List aq×List au×(List b7×we×Unit)×T0×T6×T5×T2×Unit->Nat:=fun(k,l,q,m',b,c',e,g,_)=>l.length-k.toNat
def nG(r:aw)(c:bm)(m:df)(j:Int)(s:ap)(id:Int)(f:bf)(through:List Bool):Int×Int×List au×List aq×List au×(List b7×we×Unit)×T0×T6×T5×T2×Unit->Int×Int×List au×List aq×List au×(List b7×we×Unit)×T0×T6×T5×T2×Unit->Prop:=fun(k0,_,_,_,_,_,_,_,_,_,_) (k,u,o,l,q,m',b,c',e,g,_)=>k=k0/\b=(r.Name,r.mM,r.ai,r.bA,r.cp,())/\c'=(c.Pos,c.Neg,())/\e=(s.aa,s.Next,())/\g=(f.Kind,f.ak,())/\m'.1=m.ab/\m'.2.1.1=m.af/\m'.2.1.2=j.toNat/\k<l.length/\u=Kv l q k/\o=(if k=0 then oJ r c s.aa id through 0 [] else[])/\∃p,CN r c m.ab s.aa id through (m.af.getD j.toNat bt).ao.length (qG r c m.ab s.aa id through 0 (nJ r s.aa f (m.af.getD j.toNat bt).ao) [] []) k l q p
def EJ(r:aw)(c:bm)(m:df)(j:Int)(s:ap)(id:Int)(f:bf)(through:List Bool):Int×Int×List au×List aq×List au×(List b7×we×Unit)×T0×T6×T5×T2×Unit->Nat:=fun(k,u,o,l,q,m',b,c',e,g,_)=>0
def yl(r:aw)(c:bm)(m:df)(j:Int)(s:ap)(id:Int)(f:bf)(through:List Bool):Int×Int×List au×List aq×List au×(List b7×we×Unit)×T0×T6×T5×T2×Unit->Int×Int×List au×List aq×List au×(List b7×we×Unit)×T0×T6×T5×T2×Unit->Prop:=fun(k0,i0,o0,l0,q0,m0,b0,c0,e0,g0,_) (k,i,o,l,q,m',b,c',e,g,_)=>k=k0/\l=l0/\q=q0/\m'=m0/\b=b0/\c'=c0/\e=e0/\g=g0/\0<=i/\i<=Kv l0 q0 k0/\(0<i->through.getD (e9 c k0.toNat) false=true)/\o=o0++((l0.getD (k0-1).toNat aB).bi.take i.toNat).flatMap (fun t=>fP r s.aa t.b9 id)
def xN(r:aw)(c:bm)(m:df)(j:Int)(s:ap)(id:Int)(f:bf)(through:List Bool):Int×Int×List au×List aq×List au×(List b7×we×Unit)×T0×T6×T5×T2×Unit->Nat:=fun(k,i,o,l,q,m',b,c',e,g,_)=>(Kv l q k).toNat-i.toNat
def kD(r:aw)(c:bm)(m:df)(j:Int)(s:ap)(id:Int)(f:bf)(through:List Bool):Int×List au×List aq×List au×(List b7×we×Unit)×T0×T6×T5×T2×Unit->Int×List au×List aq×List au×(List b7×we×Unit)×T0×T6×T5×T2×Unit->Prop:=fun(k0,_,_,_,_,_,_,_,_,_) (k,o,l,q,m',b,c',e,g,_)=>k=k0/\b=(r.Name,r.mM,r.ai,r.bA,r.cp,())/\c'=(c.Pos,c.Neg,())/\e=(s.aa,s.Next,())/\g=(f.Kind,f.ak,())/\m'.1=m.ab/\m'.2.1.1=m.af/\m'.2.1.2=j.toNat/\k<l.length/\o=(if k=0 then oJ r c s.aa id through 0 [] else[])/\∃p,CN r c m.ab s.aa id through (m.af.getD j.toNat bt).ao.length (qG r c m.ab s.aa id through 0 (nJ r s.aa f (m.af.getD j.toNat bt).ao) [] []) k l q p
def EK(r:aw)(c:bm)(m:df)(j:Int)(s:ap)(id:Int)(f:bf)(through:List Bool):Int×List au×List aq×List au×(List b7×we×Unit)×T0×T6×T5×T2×Unit->Nat:=fun(k,o,l,q,m',b,c',e,g,_)=>0
def qp(r:aw)(c:bm)(m:df)(j:Int)(s:ap)(id:Int)(f:bf)(through:List Bool):Int×List au×List aq×List au×(List b7×we×Unit)×T0×T6×T5×T2×Unit->Int×List au×List aq×List au×(List b7×we×Unit)×T0×T6×T5×T2×Unit->Prop:=fun(k0,_,_,_,_,_,_,_,_,_) (k,o,l,q,m',b,c',e,g,_)=>k=k0/\b=(r.Name,r.mM,r.ai,r.bA,r.cp,())/\c'=(c.Pos,c.Neg,())/\e=(s.aa,s.Next,())/\g=(f.Kind,f.ak,())/\m'.1=m.ab/\m'.2.1.1=m.af/\m'.2.1.2=j.toNat/\k<l.length/\∃p,o=oJ r c s.aa id through k.toNat p/\CN r c m.ab s.aa id through (m.af.getD j.toNat bt).ao.length (qG r c m.ab s.aa id through 0 (nJ r s.aa f (m.af.getD j.toNat bt).ao) [] []) k l q p
def EI(r:aw)(c:bm)(m:df)(j:Int)(s:ap)(id:Int)(f:bf)(through:List Bool):Int×List au×List aq×List au×(List b7×we×Unit)×T0×T6×T5×T2×Unit->Nat:=fun(k,o,l,q,m',b,c',e,g,_)=>0
def yk(r:aw)(c:bm)(m:df)(j:Int)(s:ap)(id:Int)(f:bf)(through:List Bool):Int×Int×List au×Nat×List aq×List au×(List b7×we×Unit)×T0×T6×T5×T2×Unit->Int×Int×List au×Nat×List aq×List au×(List b7×we×Unit)×T0×T6×T5×T2×Unit->Prop:=fun(k0,i0,o0,w0,l0,q0,m0,b0,c0,e0,g0,_) (k,i,o,w,l,q,m',b,c',e,g,_)=>k=k0/\w=w0/\l=l0/\q=q0/\m'=m0/\b=b0/\c'=c0/\e=e0/\g=g0/\0<=i/\i<=q0.length/\o=o0++(q0.take i.toNat).flatMap (fun t=>(m.ab.getD (e9 c k0.toNat) cS).L.flatMap (fP r s.aa t.b9))
def xM(r:aw)(c:bm)(m:df)(j:Int)(s:ap)(id:Int)(f:bf)(through:List Bool):Int×Int×List au×Nat×List aq×List au×(List b7×we×Unit)×T0×T6×T5×T2×Unit->Nat:=fun(k,i,o,w,l,q,m',b,c',e,g,_)=>q.length-i.toNat
def yj(r:aw)(c:bm)(m:df)(j:Int)(s:ap)(id:Int)(f:bf)(through:List Bool):Int×Int×Int×List au×Nat×List aq×List au×(List b7×we×Unit)×T0×T6×T5×T2×Unit->Int×Int×Int×List au×Nat×List aq×List au×(List b7×we×Unit)×T0×T6×T5×T2×Unit->Prop:=fun(k0,i0,x0,o0,w0,l0,q0,m0,b0,c0,e0,g0,_) (k,i,x,o,w,l,q,m',b,c',e,g,_)=>k=k0/\i=i0/\w=w0/\l=l0/\q=q0/\m'=m0/\b=b0/\c'=c0/\e=e0/\g=g0/\0<=x/\x<=(m0.1.getD w0 cS).L.length/\o=o0++((m0.1.getD w0 cS).L.take x.toNat).flatMap (fP r s.aa (q0.getD i0.toNat aT).b9)
def xL(r:aw)(c:bm)(m:df)(j:Int)(s:ap)(id:Int)(f:bf)(through:List Bool):Int×Int×Int×List au×Nat×List aq×List au×(List b7×we×Unit)×T0×T6×T5×T2×Unit->Nat:=fun(k,i,x,o,w,l,q,m',b,c',e,g,_)=>(m'.1.getD w cS).L.length-x.toNat
def yi(r:aw)(c:bm)(m:df)(j:Int)(s:ap)(id:Int)(f:bf)(through:List Bool):Int×Int×(List au×(Nat->Bool))×List aq×List au×(List b7×we×Unit)×T0×T6×T5×T2×Unit->Int×Int×(List au×(Nat->Bool))×List aq×List au×(List b7×we×Unit)×T0×T6×T5×T2×Unit->Prop:=fun(k0,i0,o0,l0,q0,m0,b0,c0,e0,g0,_) (k,i,o,l,q,m',b,c',e,g,_)=>k=k0/\l=l0/\q=q0/\m'=m0/\b=b0/\c'=c0/\e=e0/\g=g0/\0<=i/\i<=o0.1.length/\(0<i->k0+1=l0.length)/\(∀j,o.2 j=false)/\o.1=(o0.1.take i.toNat).map (mw r s.aa)++o0.1.drop i.toNat
def xK(r:aw)(c:bm)(m:df)(j:Int)(s:ap)(id:Int)(f:bf)(through:List Bool):Int×Int×(List au×(Nat->Bool))×List aq×List au×(List b7×we×Unit)×T0×T6×T5×T2×Unit->Nat:=fun(k,i,o,l,q,m',b,c',e,g,_)=>o.1.length-i.toNat
def ak3:AX W9:=fun(r,c,m,j,s,id,f,through)=>bq [(6,az [iI 19,.slot 16 (16,1024) (.li .cf),iS 18 .bO,.box 2 (2000002,0) [.own .cD true,.nA .di (16,1024)],.box 8 (8,1024) [.lit .str,.lit (.int .i64),.shr .cq,.shr .cQ,.shr .eT],.box 9 (9,1024) [.shr .int,.shr .int],.box 12 (12,1024) [.shr .cg,.lit (.int .i64)],.box 14 (14,1024) [.lit .str,.shr .bC]] (fun _=>uU r c m j s id f through) (sr r c m j s id f through)),(1000014,az [iI 19,iI 21,iO 20 .bO,.slot 16 (16,1024) (.li .cf),iS 18 .bO,.box 2 (2000002,0) [.own .cD true,.nA .di (16,1024)],.box 8 (8,1024) [.lit .str,.lit (.int .i64),.shr .cq,.shr .cQ,.shr .eT],.box 9 (9,1024) [.shr .int,.shr .int],.box 12 (12,1024) [.shr .cg,.lit (.int .i64)],.box 14 (14,1024) [.lit .str,.shr .bC]] (nG r c m j s id f through) (EJ r c m j s id f through)),(15,az [iI 19,iI 22,iO 20 .bO,.slot 16 (16,1024) (.li .cf),iS 18 .bO,.box 2 (2000002,0) [.own .cD true,.nA .di (16,1024)],.box 8 (8,1024) [.lit .str,.lit (.int .i64),.shr .cq,.shr .cQ,.shr .eT],.box 9 (9,1024) [.shr .int,.shr .int],.box 12 (12,1024) [.shr .cg,.lit (.int .i64)],.box 14 (14,1024) [.lit .str,.shr .bC]] (yl r c m j s id f through) (xN r c m j s id f through)),(1000011,az [iI 19,iO 20 .bO,.slot 16 (16,1024) (.li .cf),iS 18 .bO,.box 2 (2000002,0) [.own .cD true,.nA .di (16,1024)],.box 8 (8,1024) [.lit .str,.lit (.int .i64),.shr .cq,.shr .cQ,.shr .eT],.box 9 (9,1024) [.shr .int,.shr .int],.box 12 (12,1024) [.shr .cg,.lit (.int .i64)],.box 14 (14,1024) [.lit .str,.shr .bC]] (kD r c m j s id f through) (EK r c m j s id f through)),(1000018,az [iI 19,iO 20 .bO,.slot 16 (16,1024) (.li .cf),iS 18 .bO,.box 2 (2000002,0) [.own .cD true,.nA .di (16,1024)],.box 8 (8,1024) [.lit .str,.lit (.int .i64),.shr .cq,.shr .cQ,.shr .eT],.box 9 (9,1024) [.shr .int,.shr .int],.box 12 (12,1024) [.shr .cg,.lit (.int .i64)],.box 14 (14,1024) [.lit .str,.shr .bC]] (qp r c m j s id f through) (EI r c m j s id f through)),(20,az [iI 19,iI 24,iO 20 .bO,.slot 23 (23,1024) (.pth (2000002,4096) 1 0),.slot 16 (16,1024) (.li .cf),iS 18 .bO,.box 2 (2000002,0) [.own .cD true,.nA .di (16,1024)],.box 8 (8,1024) [.lit .str,.lit (.int .i64),.shr .cq,.shr .cQ,.shr .eT],.box 9 (9,1024) [.shr .int,.shr .int],.box 12 (12,1024) [.shr .cg,.lit (.int .i64)],.box 14 (14,1024) [.lit .str,.shr .bC]] (yk r c m j s id f through) (xM r c m j s id f through)),(23,az [iI 19,iI 24,iI 25,iO 20 .bO,.slot 23 (23,1024) (.pth (2000002,4096) 1 0),.slot 16 (16,1024) (.li .cf),iS 18 .bO,.box 2 (2000002,0) [.own .cD true,.nA .di (16,1024)],.box 8 (8,1024) [.lit .str,.lit (.int .i64),.shr .cq,.shr .cQ,.shr .eT],.box 9 (9,1024) [.shr .int,.shr .int],.box 12 (12,1024) [.shr .cg,.lit (.int .i64)],.box 14 (14,1024) [.lit .str,.shr .bC]] (yj r c m j s id f through) (xL r c m j s id f through)),(27,az [iI 19,iI 26,.slot 20 (20,1024) (.part .bO),.slot 16 (16,1024) (.li .cf),iS 18 .bO,.box 2 (2000002,0) [.own .cD true,.nA .di (16,1024)],.box 8 (8,1024) [.lit .str,.lit (.int .i64),.shr .cq,.shr .cQ,.shr .eT],.box 9 (9,1024) [.shr .int,.shr .int],.box 12 (12,1024) [.shr .cg,.lit (.int .i64)],.box 14 (14,1024) [.lit .str,.shr .bC]] (yi r c m j s id f through) (xK r c m j s id f through))]
def ajc:HH:=hF W9 func169 [aiz,aiy,aix] ak3 fun x hp hb=>by
 obtain⟨r,c,m,j,s,id,f,through⟩:=x
 have aG:=gL (x:=r) (hb _ m0)
 have gx:=aG.1
 have gw:=aG.2.1
 have fH:=aG.2.2.1
 have gy:=aG.2.2.2
 have cr:=NZ (x:=c) (hb _ m1)
 have aeI:=cr.1
 have aeJ:=cr.2
 have sW:=JF (x:=m) (hb _ m2)
 have nU:=sW.1
 have pb:=sW.2
 have as9:=mL (n:=j) (hb _ m3)
 have eR:=eG (x:=s) (hb _ m4)
 have E8:=mL (n:=id) (hb _ m5)
 have hz6:=jM (x:=f) (hb _ m6)
 have lz:=hz6.1
 have iL:=hz6.2
 have aaJ:L9 through.length:=eD (hb _ m7)
 have bP:aj s.aa<=4294967295:=hp _ m0
 have jv:cz r.ai<=2147483647:=hp _ m1
 have uZ:r.ai.length<=4294967295:=hp _ m2
 have AD:0<=j:=hp _ m3
 have Oc:j<m.af.length:=hp _ m4
 have hp5:0<(m.af.getD j.toNat bt).ao.length:=hp _ m5
 have hp6:oH r.ai.length (cB r true).length ((m.af.getD j.toNat bt).ao.getD ((m.af.getD j.toNat bt).ao.length-1) aB).bi:=hp _ m6
 have hp7:pN r c m.ab s.aa id through 0 (nJ r s.aa f (m.af.getD j.toNat bt).ao) [] []:=hp _ m7
 clear hp hb
 apply vE (let x1:=(m.af.getD j.toNat bt).ao;let x0:=wrap i64 ((x1.length:Int)-1);let q0:=BA×Int×List bc×List dj×List en×PUnit;let q1:=BA×List cV×PUnit;let q2:=List Int×List Int×PUnit;let q3:=List bW×Int×PUnit;0<=j/\j.toNat<m.af.length/\j.toNat<m.af.length/\0<=x0/\x0.toNat<x1.length/\x0.toNat<x1.length/\x0.toNat<x1.length/\aj s.aa<=4294967295/\cz r.ai<=2147483647/\r.ai.length<=4294967295/\oH (r.ai.length) ((cB r true).length) (x1.getD x0.toNat aB).bi/\uU r c m j s id f through (0,x1.modify x0.toNat fun(x:aq)=>{bi:=(x1.getD x0.toNat aB).bi.map (pK r s.aa f 1):aq},[],(m.ab,(m.af,j.toNat),()),(r.Name,r.mM,r.ai,r.bA,r.cp,()),(c.Pos,c.Neg,()),(s.aa,s.Next,()),(f.Kind,f.ak,()),())/\∀(y:Int×List aq×List au×(List b7×we×PUnit)×q0×q2×q3×q1×PUnit),let x3:=y.2.2.2.2.2.1.1.getD (Int.toNat 0) 0;let x4:=y.2.2.2.2.1.2.2.1.length;let x2:=x3.toNat;uU r c m j s id f through y->bif decide (y.1<=x0) then(bif y.1==0 then(0:Int)<=(0:Int)/\Int.toNat 0<y.2.2.2.2.2.1.1.length/\0<=x3/\x2<through.length/\bif through.getD x2 false then L4 (aj y.2.2.2.2.2.2.1.1)/\cz y.2.2.2.2.1.2.2.1<=4294967295/\(0:Nat)+(1:Nat)<=x4/\x4<=4294967295/\(0:Nat)+(1:Nat)<=4294967295/\kD r c m j s id f through (y.1,[],y.2) (y.1,[]++fP {Name:=y.2.2.2.2.1.1,mM:=y.2.2.2.2.1.2.1,ai:=y.2.2.2.2.1.2.2.1,bA:=y.2.2.2.2.1.2.2.2.1,cp:=y.2.2.2.2.1.2.2.2.2.1:aw} y.2.2.2.2.2.2.1.1 [] id,y.2) else kD r c m j s id f through (y.1,[],y.2) (y.1,[],y.2) else kD r c m j s id f through (y.1,[],y.2) (y.1,[],y.2))/\∀(av:Int×List au×List aq×List au×(List b7×we×PUnit)×q0×q2×q3×q1×PUnit),let x5:=Int.toNat (wrap i64 (av.1-1));let q4:=(av.1,0,av.2);kD r c m j s id f through (y.1,[],y.2) av->(bif decide (av.1>0) then 0<=wrap i64 (av.1-1)/\x5<av.2.2.1.length/\x5<av.2.2.1.length/\x5<av.2.2.1.length/\nG r c m j s id f through q4 (av.1,wrap i64 ((↑((av.2.2.1.getD x5 aB).bi.length):Int)-(av.2.2.2.1.length:Int)),av.2) else nG r c m j s id f through q4 q4)/\∀(j_:Int×Int×List au×List aq×List au×(List b7×we×PUnit)×q0×q2×q3×q1×PUnit),let q5:=(j_.1,0,j_.2.2);nG r c m j s id f through q4 j_->(yl r c m j s id f through q5 q5/\∀(y:Int×Int×List au×List aq×List au×(List b7×we×PUnit)×q0×q2×q3×q1×PUnit),let x7:=y.2.2.2.2.2.2.2.1.1.getD y.1.toNat 0;let x8:=y.2.2.2.2.2.2.1.2.2.1.length;let vc:=y.2.1.toNat;let zH:=Int.toNat (wrap i64 (y.1-1));let x6:=x7.toNat;let zI:=(y.2.2.2.1.getD zH aB).bi;let x9:=(zI.getD vc aT).b9;let q6:=(y.1,wrap i64 (y.2.1+1),y.2.2.1++fP {Name:=y.2.2.2.2.2.2.1.1,mM:=y.2.2.2.2.2.2.1.2.1,ai:=y.2.2.2.2.2.2.1.2.2.1,bA:=y.2.2.2.2.2.2.1.2.2.2.1,cp:=y.2.2.2.2.2.2.1.2.2.2.2.1:aw} y.2.2.2.2.2.2.2.2.1.1 x9 id,y.2.2.2);let q7:=qp r c m j s id f through (j_.1,j_.2.2) (y.1,y.2.2);yl r c m j s id f through q5 y->bif decide (y.2.1<j_.2.1) then 0<=y.1/\y.1.toNat<y.2.2.2.2.2.2.2.1.1.length/\0<=x7/\x6<through.length/\bif through.getD x6 false then 0<=wrap i64 (y.1-1)/\zH<y.2.2.2.1.length/\zH<y.2.2.2.1.length/\zH<y.2.2.2.1.length/\0<=y.2.1/\vc<zI.length/\zH<y.2.2.2.1.length/\vc<zI.length/\zH<y.2.2.2.1.length/\vc<zI.length/\L4 (aj y.2.2.2.2.2.2.2.2.1.1)/\cz y.2.2.2.2.2.2.1.2.2.1<=4294967295/\x9.length+1<=x8/\x8<=4294967295/\y.2.2.1.length+(1:Nat)<=(4294967295:Nat)/\yl r c m j s id f through q5 q6/\xN r c m j s id f through q6<xN r c m j s id f through y else q7 else q7)/\∀(OA:Int×List au×List aq×List au×(List b7×we×PUnit)×q0×q2×q3×q1×PUnit),let x7:=OA.2.2.2.2.2.2.1.1.getD OA.1.toNat 0;let x6:=x7.toNat;let q8:=(OA.1,0,OA.2.1,x6,OA.2.2);qp r c m j s id f through (j_.1,j_.2.2) OA->0<=OA.1/\OA.1.toNat<OA.2.2.2.2.2.2.1.1.length/\0<=x7/\x6<OA.2.2.2.2.1.1.length/\x6<OA.2.2.2.2.1.1.length/\yk r c m j s id f through q8 q8/\∀(FV:Int×Int×List au×Nat×List aq×List au×(List b7×we×PUnit)×q0×q2×q3×q1×PUnit),let x8:=(FV.2.2.2.2.2.1.length:Int);let q9:=(FV.1,FV.2.1,0,FV.2.2);yk r c m j s id f through q8 FV->bif decide (FV.2.1<x8) then yj r c m j s id f through q9 q9/\∀(y:Int×Int×Int×List au×Nat×List aq×List au×(List b7×we×PUnit)×q0×q2×q3×q1×PUnit),let vc:=(y.2.2.2.2.2.2.2.1.1.getD y.2.2.2.2.1 cS).L;let zH:=y.2.2.2.2.2.2.2.2.1.2.2.1.length;let x14:=y.2.2.1.toNat;let X4:=y.2.1.toNat;let zI:=vc.length;let Ru:=(y.2.2.2.2.2.2.1.getD X4 aT).b9;let x9:=(↑zI:Int);let q10:=(y.1,y.2.1,wrap i64 (y.2.2.1+1),y.2.2.2.1++fP {Name:=y.2.2.2.2.2.2.2.2.1.1,mM:=y.2.2.2.2.2.2.2.2.1.2.1,ai:=y.2.2.2.2.2.2.2.2.1.2.2.1,bA:=y.2.2.2.2.2.2.2.2.1.2.2.2.1,cp:=y.2.2.2.2.2.2.2.2.1.2.2.2.2.1:aw} y.2.2.2.2.2.2.2.2.2.2.1.1 Ru (vc.getD x14 0),y.2.2.2.2);let q11:=(y.1,wrap i64 (y.2.1+1),y.2.2.2);yj r c m j s id f through q9 y->y.2.2.2.2.1<y.2.2.2.2.2.2.2.1.1.length/\bif decide (y.2.2.1<x9) then 0<=y.2.1/\X4<y.2.2.2.2.2.2.1.length/\X4<y.2.2.2.2.2.2.1.length/\y.2.2.2.2.1<y.2.2.2.2.2.2.2.1.1.length/\0<=y.2.2.1/\x14<zI/\y.2.2.2.2.1<y.2.2.2.2.2.2.2.1.1.length/\x14<zI/\X4<y.2.2.2.2.2.2.1.length/\L4 (aj y.2.2.2.2.2.2.2.2.2.2.1.1)/\cz y.2.2.2.2.2.2.2.2.1.2.2.1<=4294967295/\Ru.length+1<=zH/\zH<=4294967295/\y.2.2.2.1.length+(1:Nat)<=(4294967295:Nat)/\yj r c m j s id f through q9 q10/\xL r c m j s id f through q10<xL r c m j s id f through y else yk r c m j s id f through q8 q11/\xM r c m j s id f through q11<xM r c m j s id f through FV else yi r c m j s id f through (FV.1,0,(FV.2.2.1,fun(x:Nat)=>false),FV.2.2.2.2) (FV.1,0,(FV.2.2.1,fun(x:Nat)=>false),FV.2.2.2.2)/\∀(lV:Int×Int×(List au×(Nat->Bool))×List aq×List au×(List b7×we×PUnit)×q0×q2×q3×q1×PUnit),let x9:=lV.2.2.fst.1.length;let zI:=lV.2.2.2.2.2.2.1.2.2.1.length;let vc:=lV.2.1.toNat;let zH:=(lV.2.2.2.1.getD lV.1.toNat aB).bi;let Ru:=lV.2.2.fst.1.getD vc aT;let q12:=(wrap i64 (lV.1+1),lV.2.2.2.1.set lV.1.toNat {bi:=zH++lV.2.2.fst.1:aq},lV.2.2.fst.1,lV.2.2.2.2.2);let q13:=mw {Name:=lV.2.2.2.2.2.2.1.1,mM:=lV.2.2.2.2.2.2.1.2.1,ai:=lV.2.2.2.2.2.2.1.2.2.1,bA:=lV.2.2.2.2.2.2.1.2.2.2.1,cp:=lV.2.2.2.2.2.2.1.2.2.2.2.1:aw} lV.2.2.2.2.2.2.2.2.1.1 Ru;yi r c m j s id f through (FV.1,0,(FV.2.2.1,fun(x:Nat)=>false),FV.2.2.2.2) lV->bif decide (lV.2.1<(↑x9:Int)) then bif lV.1==x0 then 0<=lV.2.1/\vc<x9/\vc<x9/\lV.2.2.fst.2 vc=false/\aj lV.2.2.2.2.2.2.2.2.1.1<=4294967295/\cz lV.2.2.2.2.2.2.1.2.2.1<=2147483647/\Ru.b9.length<=zI/\zI<=4294967295/\0<=lV.2.1/\vc<x9/\vc<x9/\yi r c m j s id f through (FV.1,0,(FV.2.2.1,fun(x:Nat)=>false),FV.2.2.2.2) (lV.1,wrap i64 (lV.2.1+1),(lV.2.2.fst.1.set vc q13,fun(j:Nat)=> !Nat.beq j vc&&(Nat.beq j vc||lV.2.2.fst.2 j)),lV.2.2.2)/\xK r c m j s id f through (lV.1,wrap i64 (lV.2.1+1),(lV.2.2.fst.1.set vc q13,fun(j:Nat)=> !Nat.beq j vc&&(Nat.beq j vc||lV.2.2.fst.2 j)),lV.2.2.2)<xK r c m j s id f through lV else 0<=lV.1/\lV.1.toNat<lV.2.2.2.1.length/\lV.1.toNat<lV.2.2.2.1.length/\(∀(i:Nat),i<x9->lV.2.2.fst.2 i=false)/\zH.length+x9<=4294967296/\0<=lV.1/\lV.1.toNat<lV.2.2.2.1.length/\lV.1.toNat=lV.1.toNat/\uU r c m j s id f through q12/\sr r c m j s id f through q12<sr r c m j s id f through y else 0<=lV.1/\lV.1.toNat<lV.2.2.2.1.length/\lV.1.toNat<lV.2.2.2.1.length/\(∀(i:Nat),i<x9->lV.2.2.fst.2 i=false)/\zH.length+x9<=4294967296/\0<=lV.1/\lV.1.toNat<lV.2.2.2.1.length/\lV.1.toNat=lV.1.toNat/\uU r c m j s id f through q12/\sr r c m j s id f through q12<sr r c m j s id f through y else LM [] [] [DV.box [CL .cD y.2.2.2.1.1,CL .di (y.2.2.2.1.2.1.1.set y.2.2.2.1.2.1.2 {ao:=y.2.1:dR})]] [DV.box [CL .cD m.ab,CL .di (m.af.set j.toNat {ao:=qG r c m.ab s.aa id through 0 (nJ r s.aa f x1) [] []:dR})]])
 dsimp only
 have Ek:=zK r c m.ab s.aa id through _ _ _ _ hp7
 have hTl:(nJ r s.aa f (m.af.getD j.toNat bt).ao).length=(m.af.getD j.toNat bt).ao.length:=zF
 have hL:(m.af.getD j.toNat bt).ao.length<=r.ai.length:=by
  rcases Ek with e|e
  ·rw[e] at hTl;simp only[ii] at hTl;omega
  ·omega
 have hw0:IntKind.wrap .i64 (((m.af.getD j.toNat bt).ao.length:Int)-1)=((m.af.getD j.toNat bt).ao.length:Int)-1:=wi
 have hx4:(((m.af.getD j.toNat bt).ao.length:Int)-1).toNat=(m.af.getD j.toNat bt).ao.length-1:=by omega
 have TH:(m.af.getD j.toNat bt).ao.modify ((m.af.getD j.toNat bt).ao.length-1) (fun x:aq=>(⟨((m.af.getD j.toNat bt).ao.getD ((m.af.getD j.toNat bt).ao.length-1) aB).bi.map (pK r s.aa f 1)⟩:aq))=nJ r s.aa f (m.af.getD j.toNat bt).ao:=S0 aB _
 have E7:((m.af.getD j.toNat bt).ao.getD ((m.af.getD j.toNat bt).ao.length-1) aB).bi=((m.af.getD j.toNat bt).ao.getD ((m.af.getD j.toNat bt).ao.length-1) aB).bi:=rfl
 rw[hw0,hx4,TH]
 refine⟨AD,by omega,by omega,by omega,by omega,by omega,by omega,bP,jv,uZ,hp6,⟨rfl,rfl,rfl,rfl,rfl,rfl,rfl,[],by omega,by omega,hTl,fun _=>⟨rfl,rfl⟩,fun h=>absurd h (by omega),rfl,hp7⟩,?_⟩
 rintro⟨k,l,q,⟨a,⟨rs,jj⟩,⟨⟩⟩,⟨b1,b2,b3,b4,b5,⟨⟩⟩,⟨c1,c2,⟨⟩⟩,⟨e1,e2,⟨⟩⟩,⟨g1,g2,⟨⟩⟩,⟨⟩⟩ ⟨hb,hc,he,hg,yJ,vH,PT,p,J⟩
 cases hb
 cases hc
 cases he
 cases hg
 replace yJ:a=m.ab:=yJ
 replace vH:rs=m.af:=vH
 replace PT:jj=j.toNat:=PT
 subst a rs jj
 simp only
 refine aE ?_ ?_<;>intro hk
 ·have hl6:=J.2.2.1
  have sP:k<l.length:=by omega
  obtain⟨o1,o2,o3,o4,o5,o6,o7,o8⟩:=wz J sP
  refine⟨ae (fun h0=> ?_) (fun h0=> ?_),?_⟩
  ·have h0:k=0:=eq_of_beq h0
   subst h0
   refine⟨by omega,o2,o3,by omega,ae (fun ht=> ?_) (fun ht=> ?_)⟩
   ·refine⟨by omega,by omega,(show 0+1<=r.ai.length by omega),uZ,(show 0+1<=4294967295 by omega),⟨rfl,rfl,rfl,rfl,rfl,rfl,rfl,rfl,sP,?_,p,J⟩⟩
    show fP r s.aa [] id=_
    rw[if_pos rfl]
    exact((if_pos rfl).trans (if_pos (show through.getD (e9 c 0) false=true from ht))).symm
   ·refine⟨rfl,rfl,rfl,rfl,rfl,rfl,rfl,rfl,sP,?_,p,J⟩
    rw[if_pos rfl]
    exact((if_pos rfl).trans (if_neg (show¬through.getD (e9 c 0) false=true from fun e=>by rw[show through.getD (e9 c 0) false=false from ht] at e;cases e))).symm
  ·have h0:¬k=0:=fun e=>by rw[e] at h0;cases h0
   exact⟨rfl,rfl,rfl,rfl,rfl,rfl,rfl,rfl,sP,(if_neg h0).symm,p,J⟩
  clear o1 o2 o3 o4 o5 o6 o7 o8 J sP
  rintro⟨k',o,l',q',⟨a,⟨rs,jj⟩,⟨⟩⟩,⟨b1,b2,b3,b4,b5,⟨⟩⟩,⟨c1,c2,⟨⟩⟩,⟨e1,e2,⟨⟩⟩,⟨g1,g2,⟨⟩⟩,⟨⟩⟩ ⟨ek,hb,hc,he,hg,yJ,vH,PT,sP,ho,p',J⟩
  replace ek:k'=k:=ek
  subst k'
  cases hb
  cases hc
  cases he
  cases hg
  replace yJ:a=m.ab:=yJ
  replace vH:rs=m.af:=vH
  replace PT:jj=j.toNat:=PT
  subst a rs jj
  replace sP:k<l'.length:=sP
  replace ho:o=if k=0 then oJ r c s.aa id through 0 [] else[]:=ho
  simp only
  clear p
  obtain⟨o1,o2,o3,o4,o5,o6,o7,o8⟩:=wz J sP
  refine⟨aE (fun qu=> ?_) (fun qu=> ?_),?_⟩
  ·have hwk:IntKind.wrap .i64 (k-1)=k-1:=wi
   have hpq:(l'.getD (k-1).toNat aB).bi.length=p'.length+q'.length:=by rw[J.2.2.2.2.1 qu,kF]
   have hw2:IntKind.wrap .i64 (((l'.getD (k-1).toNat aB).bi.length:Int)-(q'.length:Int))=((l'.getD (k-1).toNat aB).bi.length:Int)-(q'.length:Int):=wi
   rw[hwk,hw2]
   exact⟨by omega,by omega,by omega,by omega,⟨rfl,rfl,rfl,rfl,rfl,rfl,rfl,rfl,sP,(if_pos qu).symm,ho,p',J⟩⟩
  ·exact⟨rfl,rfl,rfl,rfl,rfl,rfl,rfl,rfl,sP,(if_neg qu).symm,ho,p',J⟩
  clear o1 o2 o3 o4 o5 o6 o7 o8 J sP ho
  rintro⟨k',u,o,l,q,⟨a,⟨rs,jj⟩,⟨⟩⟩,⟨b1,b2,b3,b4,b5,⟨⟩⟩,⟨c1,c2,⟨⟩⟩,⟨e1,e2,⟨⟩⟩,⟨g1,g2,⟨⟩⟩,⟨⟩⟩ ⟨ek,hb,hc,he,hg,yJ,vH,PT,sP,hu,ho,p,J⟩
  replace ek:k'=k:=ek
  subst k'
  cases hb
  cases hc
  cases he
  cases hg
  replace yJ:a=m.ab:=yJ
  replace vH:rs=m.af:=vH
  replace PT:jj=j.toNat:=PT
  subst a rs jj
  replace sP:k<l.length:=sP
  replace hu:u=Kv l q k:=hu
  replace ho:o=if k=0 then oJ r c s.aa id through 0 [] else[]:=ho
  simp only
  clear p'
  obtain⟨o1,o2,o3,o4,o5,o6,o7,o8⟩:=wz J sP
  have hold:Kv l q k=p.length:=by
   unfold Kv
   by_cases qu:0<k
   ·rw[if_pos qu,J.2.2.2.2.1 qu,kF];omega
   ·rw[if_neg qu,(J.2.2.2.1 (by have:=J.1;omega)).1];rfl
  have PN:∀i:Nat,i<=p.length->(l.getD (k-1).toNat aB).bi.take i=p.take i:=fun i hi=>by
   by_cases qu:0<k
   ·rw[J.2.2.2.2.1 qu,List.take_append_of_le_length hi]
   ·have e:=(J.2.2.2.1 (by have:=J.1;omega)).1
    subst e
    have:i=0:=by simpa using hi
    subst this;simp
  refine⟨⟨⟨rfl,rfl,rfl,rfl,rfl,rfl,rfl,rfl,by omega,by omega,fun h=>absurd h (by omega),(sI _).symm⟩,?_⟩,?_⟩
  ·rintro⟨k',i,o',l',q',⟨a,⟨rs,jj⟩,⟨⟩⟩,⟨b1,b2,b3,b4,b5,⟨⟩⟩,⟨c1,c2,⟨⟩⟩,⟨e1,e2,⟨⟩⟩,⟨g1,g2,⟨⟩⟩,⟨⟩⟩ ⟨z1,z2,z3,z4,z5,z6,z7,z8,i1,i2,i3,i4⟩
   replace z1:k'=k:=z1
   replace z2:l'=l:=z2
   replace z3:q'=q:=z3
   subst k' l' q'
   cases z4
   cases z5
   cases z6
   cases z7
   cases z8
   replace i2:i<=Kv l q k:=i2
   replace i3:0<i->through.getD (e9 c k.toNat) false=true:=i3
   replace i4:o'=o++((l.getD (k-1).toNat aB).bi.take i.toNat).flatMap (fun t=>fP r s.aa t.b9 id):=i4
   rw[PN _ (by omega)] at i4
   simp only
   have done:i=0\/(i=p.length/\0<i)->(through.getD (e9 c k.toNat) false=false\/i=p.length)->o'=oJ r c s.aa id through k.toNat p:=by
    intro h1 h2
    rw[i4,ho]
    unfold oJ
    by_cases qu:k=0
    ·have e:=(J.2.2.2.1 qu).1
     subst e
     subst qu
     simp
    ·have lg:¬k.toNat=0:=by have:=J.1;omega
     rw[if_neg qu,if_neg lg,List.nil_append]
     rcases h1 with h1|⟨h1,h3⟩
     ·subst h1
      rw[show(0:Int).toNat=0 from rfl,List.take_zero]
      rcases h2 with h2|h2
      ·rw[if_neg (by rw[h2];exact Bool.false_ne_true)];rfl
      ·have:p=[]:=yG (by omega)
       subst this
       split<;>rfl
     ·rw[if_pos (i3 h3),EM (by omega)]
   refine aE ?_ ?_<;>intro hc
   ·have qu:0<k:=by
     rcases Int.lt_or_le 0 k with g|g
     ·exact g
     ·have:=(J.2.2.2.1 (by have:=J.1;omega)).1
      rw[this] at hold
      simp only[ii] at hold
      omega
    have hpq:(l.getD (k-1).toNat aB).bi=p++q:=J.2.2.2.2.1 qu
    refine⟨J.1,o2,o3,by omega,ae (fun ht=> ?_) (fun ht=> ?_)⟩
    ·have hip:i.toNat<p.length:=by omega
     have hlen:(l.getD (k-1).toNat aB).bi.length=p.length+q.length:=by rw[hpq,kF]
     have hgt:(l.getD (k-1).toNat aB).bi.getD i.toNat aT=p.getD i.toNat aT:=by
      rw[hpq,gh,u_ hip,gh]
     have apx:=o6 _ (getDM aT hip)
     have hol:o'.length<=i.toNat:=by
      have:=kB (fun t:au=>fP r s.aa t.b9 id) 1 (p.take i.toNat) (fun t _=>LR r s.aa t.b9 id)
      rw[i4,ho,if_neg (by omega),List.nil_append]
      rw[mO] at this
      omega
     have hwk:IntKind.wrap .i64 (k-1)=k-1:=wi
     rw[hwk,wi (n:=i+1),hgt]
     refine⟨by omega,by omega,by omega,by omega,i1,by omega,by omega,by omega,by omega,by omega,by omega,by omega,by omega,uZ,by omega,⟨rfl,rfl,rfl,rfl,rfl,rfl,rfl,rfl,by omega,by omega,fun _=>ht,?_⟩,by simp only[xN];omega⟩
     show o'++fP r s.aa (p.getD i.toNat aT).b9 id=_
     rw[PN _ (by omega),qZ _ aT i1 (by omega),i4,qc]
    ·have ht:through.getD (e9 c k.toNat) false=false:=ht
     have hi0:i=0:=by
      rcases Int.lt_or_le 0 i with g|g
      ·rw[i3 g] at ht;cases ht
      ·omega
     exact⟨rfl,rfl,rfl,rfl,rfl,rfl,rfl,rfl,sP,p,done (.inl hi0) (.inl ht),J⟩
   ·refine⟨rfl,rfl,rfl,rfl,rfl,rfl,rfl,rfl,sP,p,done ?_ (.inr (by omega)),J⟩
    rcases Int.lt_or_le 0 i with g|g
    ·exact .inr ⟨by omega,g⟩
    ·exact .inl (by omega)
  clear o1 o2 o3 o4 o5 o6 o7 o8 J sP ho hu hold PN
  rintro⟨k',o,l',q',⟨a,⟨rs,jj⟩,⟨⟩⟩,⟨b1,b2,b3,b4,b5,⟨⟩⟩,⟨c1,c2,⟨⟩⟩,⟨e1,e2,⟨⟩⟩,⟨g1,g2,⟨⟩⟩,⟨⟩⟩ ⟨ek,hb,hc,he,hg,yJ,vH,PT,sP,p',ho,J⟩
  replace ek:k'=k:=ek
  subst k'
  cases hb
  cases hc
  cases he
  cases hg
  replace yJ:a=m.ab:=yJ
  replace vH:rs=m.af:=vH
  replace PT:jj=j.toNat:=PT
  subst a rs jj
  replace sP:k<l'.length:=sP
  replace ho:o=oJ r c s.aa id through k.toNat p':=ho
  simp only
  clear p
  obtain⟨o1,o2,o3,o4,o5,o6,o7,o8⟩:=wz J sP
  have VZ:=J.1
  have hPl:=MN r c s.aa id through k.toNat p'
  rw[<-ho] at hPl
  have pa:(c.Pos.getD k.toNat 0).toNat=e9 c k.toNat:=rfl
  rw[pa]
  have hF:∀q:List au,(pn r c m.ab s.aa k.toNat q).length<=q.length*(m.ab.getD (e9 c k.toNat) cS).L.length:=fun q=>kB _ _ q (fun t _=>IG r s.aa t.b9 _)
  refine⟨J.1,o2,o3,by omega,by omega,⟨rfl,rfl,rfl,rfl,rfl,rfl,rfl,rfl,rfl,by omega,by omega,(sI _).symm⟩,?_⟩
  rintro⟨k',i,o',w,l,q,⟨a,⟨rs,jj⟩,⟨⟩⟩,⟨b1,b2,b3,b4,b5,⟨⟩⟩,⟨c1,c2,⟨⟩⟩,⟨e1,e2,⟨⟩⟩,⟨g1,g2,⟨⟩⟩,⟨⟩⟩ ⟨z1,z9,z2,z3,z4,z5,z6,z7,z8,i1,i2,i4⟩
  replace z1:k'=k:=z1
  replace z2:l=l':=z2
  replace z3:q=q':=z3
  replace z9:w=e9 c k.toNat:=z9
  subst k' l q w
  cases z4
  cases z5
  cases z6
  cases z7
  cases z8
  replace i2:i<=q'.length:=i2
  replace i4:o'=o++pn r c m.ab s.aa k.toNat (q'.take i.toNat):=i4
  simp only
  refine aE ?_ ?_<;>intro hi
  ·have hiq:i.toNat<q'.length:=by omega
   have apx:=o7 _ (getDM aT hiq)
   have hf1:=hF (q'.take i.toNat)
   have hf2:=hF (q'.take (i+1).toNat)
   have hfs:pn r c m.ab s.aa k.toNat (q'.take (i+1).toNat)=pn r c m.ab s.aa k.toNat (q'.take i.toNat)++(m.ab.getD (e9 c k.toNat) cS).L.flatMap (fP r s.aa (q'.getD i.toNat aT).b9):=qZ _ aT i1 hi
   have hmul:(i.toNat+1)*(m.ab.getD (e9 c k.toNat) cS).L.length<=q'.length*(m.ab.getD (e9 c k.toNat) cS).L.length:=u9 _ (by omega)
   rw[ta] at hmul
   rw[mO,Nat.min_eq_left (by omega)] at hf1
   refine⟨⟨rfl,rfl,rfl,rfl,rfl,rfl,rfl,rfl,rfl,rfl,by omega,by omega,(sI _).symm⟩,?_⟩
   rintro⟨k',i',x,o2',w,l,q,⟨a,⟨rs,jj⟩,⟨⟩⟩,⟨b1,b2,b3,b4,b5,⟨⟩⟩,⟨c1,c2,⟨⟩⟩,⟨e1,e2,⟨⟩⟩,⟨g1,g2,⟨⟩⟩,⟨⟩⟩ ⟨z1,z10,z9,z2,z3,z4,z5,z6,z7,z8,x1,x2,x4⟩
   replace z1:k'=k:=z1
   replace z2:l=l':=z2
   replace z3:q=q':=z3
   replace z9:w=e9 c k.toNat:=z9
   replace z10:i'=i:=z10
   subst k' l q w i'
   cases z4
   cases z5
   cases z6
   cases z7
   cases z8
   replace x2:x<=(m.ab.getD (e9 c k.toNat) cS).L.length:=x2
   replace x4:o2'=o'++((m.ab.getD (e9 c k.toNat) cS).L.take x.toNat).flatMap (fP r s.aa (q'.getD i.toNat aT).b9):=x4
   simp only
   have zT:e9 c k.toNat<m.ab.length:=by rw[<-pa];omega
   refine⟨zT,aE (fun hx=> ?_) (fun hx=> ?_)⟩
   ·have V1:=IG r s.aa (q'.getD i.toNat aT).b9 ((m.ab.getD (e9 c k.toNat) cS).L.take x.toNat)
    rw[mO] at V1
    have hol:o2'.length<=1+p'.length+q'.length*(m.ab.getD (e9 c k.toNat) cS).L.length:=by
     have e1:o'.length=o.length+(pn r c m.ab s.aa k.toNat (q'.take i.toNat)).length:=by rw[i4,kF]
     have e2:o2'.length=o'.length+(((m.ab.getD (e9 c k.toNat) cS).L.take x.toNat).flatMap (fP r s.aa (q'.getD i.toNat aT).b9)).length:=by rw[x4,kF]
     omega
    rw[wi (n:=x+1)]
    refine⟨i1,hiq,hiq,zT,x1,by omega,zT,by omega,hiq,by omega,by omega,by omega,uZ,by omega,⟨rfl,rfl,rfl,rfl,rfl,rfl,rfl,rfl,rfl,rfl,by omega,(show x+1<=((m.ab.getD (e9 c k.toNat) cS).L.length:Int) by omega),?_⟩,by simp only[xL];omega⟩
    show o2'++fP r s.aa (q'.getD i.toNat aT).b9 ((m.ab.getD (e9 c k.toNat) cS).L.getD x.toNat 0)=o'++((m.ab.getD (e9 c k.toNat) cS).L.take (x+1).toNat).flatMap (fP r s.aa (q'.getD i.toNat aT).b9)
    rw[qZ _ (0:Int) x1 hx,x4,qc]
   ·rw[EM (by omega)] at x4
    rw[wi (n:=i+1)]
    refine⟨⟨rfl,rfl,rfl,rfl,rfl,rfl,rfl,rfl,rfl,by omega,(show i+1<=(q'.length:Int) by omega),?_⟩,by simp only[xM];omega⟩
    show o2'=o++pn r c m.ab s.aa k.toNat (q'.take (i+1).toNat)
    rw[hfs,x4,i4,qc]
  ·rw[EM (by omega)] at i4
   have hf:=hF q'
   have e1:o'.length=o.length+(pn r c m.ab s.aa k.toNat q').length:=by rw[i4,kF]
   refine⟨⟨rfl,rfl,rfl,rfl,rfl,rfl,rfl,rfl,by omega,by omega,fun h=>absurd h (by omega),fun _=>rfl,by simp⟩,?_⟩
   rintro⟨k',i',⟨n,dd⟩,l,q,⟨a,⟨rs,jj⟩,⟨⟩⟩,⟨b1,b2,b3,b4,b5,⟨⟩⟩,⟨c1,c2,⟨⟩⟩,⟨e1,e2,⟨⟩⟩,⟨g1,g2,⟨⟩⟩,⟨⟩⟩ ⟨z1,z2,z3,z4,z5,z6,z7,z8,n1,n2,n3,n4,n5⟩
   replace z1:k'=k:=z1
   replace z2:l=l':=z2
   replace z3:q=q':=z3
   subst k' l q
   cases z4
   cases z5
   cases z6
   cases z7
   cases z8
   replace n2:i'<=o'.length:=n2
   replace n3:0<i'->k+1=l'.length:=n3
   replace n4:∀j,dd j=false:=n4
   replace n5:n=(o'.take i'.toNat).map (mw r s.aa)++o'.drop i'.toNat:=n5
   have hnl:n.length=o'.length:=by rw[n5,kF,wj,mO,FT];omega
   simp only
   have hj3:=J.2.2.1
   have last:k+1=l'.length->n=o'.map (mw r s.aa)->n=qE r c m.ab s.aa id through (l'.drop (k.toNat+1)).isEmpty k.toNat p' q':=fun h1 h2=>by
    have:(l'.drop (k.toNat+1)).isEmpty=true:=by rw[List.drop_eq_nil_of_le (by omega)];rfl
    rw[this,Ke,h2,i4,ho]
   have mid:¬k+1=l'.length->n=o'->n=qE r c m.ab s.aa id through (l'.drop (k.toNat+1)).isEmpty k.toNat p' q':=fun h1 h2=>by
    have:(l'.drop (k.toNat+1)).isEmpty=false:=by rw[vo aB (by omega)];rfl
    rw[this,Ie,h2,i4,ho]
   have step:n=qE r c m.ab s.aa id through (l'.drop (k.toNat+1)).isEmpty k.toNat p' q'->uU r c m j s id f through (k+1,l'.set k.toNat ⟨(l'.getD k.toNat aB).bi++n⟩,n,(m.ab,(m.af,j.toNat),()),(r.Name,r.mM,r.ai,r.bA,r.cp,()),(c.Pos,c.Neg,()),(s.aa,s.Next,()),(f.Kind,f.ak,()),()):=fun h=>
    ⟨rfl,rfl,rfl,rfl,rfl,rfl,rfl,_,Kf J sP h⟩
   have lg:IntKind.wrap .i64 (k+1)=k+1:=wi
   refine aE ?_ ?_<;>intro hc
   ·refine ae ?_ ?_<;>intro hq
    ·have hq:k=((m.af.getD j.toNat bt).ao.length:Int)-1:=eq_of_beq hq
     have qi:i'.toNat<o'.length:=by omega
     obtain⟨y1,y2,_⟩:=aak (mw r s.aa) aT qi
     rw[<-n5] at y1 y2
     have hj:∀ids x (t:au),t∈fP r s.aa ids x->t.b9.length=ids.length+1:=fun ids x t ht=>by
      unfold fP at ht
      split at ht
      ·rw[g_] at ht;subst ht;exact kF
      ·cases ht
     have ox:∀t∈o',t.b9.length=k.toNat+1:=fun t hm=>by
      rw[i4,ho,gA] at hm
      rcases hm with hm|hm
      ·unfold oJ at hm
       split at hm
       ·split at hm
        ·have:=hj _ _ _ hm;simp only[ii] at this;omega
        ·cases hm
       ·split at hm
        ·obtain⟨t',ht,hm⟩:=ln.1 hm
         have:=hj _ _ _ hm;have:=o6 t' ht;omega
        ·cases hm
      ·obtain⟨t',ht,hm⟩:=ln.1 hm
       obtain⟨x,_,hm⟩:=ln.1 hm
       have:=hj _ _ _ hm;have:=o7 t' ht;omega
     have hol:=ox _ (getDM aT qi)
     rw[wi (n:=i'+1),y1]
     refine⟨n1,by omega,by omega,n4 _,by omega,by omega,by omega,uZ,n1,by omega,by omega,⟨rfl,rfl,rfl,rfl,rfl,rfl,rfl,rfl,by omega,(show i'+1<=(o'.length:Int) by omega),fun _=>(show k+1=(l'.length:Int) by omega),fun j=> ?_,?_⟩,by simp only[xK,zF];omega⟩
     ·show(!Nat.beq j i'.toNat&&(Nat.beq j i'.toNat||dd j))=false
      rw[n4 j];cases Nat.beq j i'.toNat<;>rfl
     ·show n.set i'.toNat (mw r s.aa (o'.getD i'.toNat aT))=_
      rw[y2,show(i'+1).toNat=i'.toNat+1 by omega]
    ·have hq:¬k=((m.af.getD j.toNat bt).ao.length:Int)-1:=fun e=>by rw[e] at hq;simp at hq
     have hi0:i'=0:=by
      rcases Int.lt_or_le 0 i' with g|g
      ·have:=n3 g;omega
      ·omega
     have Gt:n=o':=by rw[n5,hi0];simp
     rw[lg]
     exact⟨J.1,by omega,by omega,fun i _=>n4 i,by omega,J.1,by omega,by trivial,step (mid (by omega) Gt),by simp only[sr,zF];omega⟩
   ·have hie:i'=o'.length:=by omega
    have Gt:n=o'.map (mw r s.aa):=by rw[n5,hie];exact KB _ (by omega)
    rw[lg]
    refine⟨J.1,by omega,by omega,fun i _=>n4 i,by omega,J.1,by omega,by trivial,step ?_,by simp only[sr,zF];omega⟩
    by_cases E7:k+1=l'.length
    ·exact last E7 Gt
    ·refine mid E7 ?_
     have:o'=[]:=by
      rcases Int.lt_or_le 0 i' with g|g
      ·exact absurd (n3 g) E7
      ·exact yG (by omega)
     rw[Gt,this];rfl
 ·obtain⟨j1,j2,j3,j4,j5,j6,j7⟩:=J
  rw[EM (by omega),List.drop_eq_nil_of_le (by omega)] at j6
  replace j6:l++[]=_:=j6
  rw[sI] at j6
  rw[j6]
  exact⟨by trivial,by trivial,rfl⟩
def XE:=bE (α:=bY×dE×df×ap×Int) (qC (qA .jc) (qC (qA .mK) (qC (qX .jU) (qC (qA .dW) (q1 qI))))) [.ro,.ro,.box true,.ro,.ro] (fun(d,n,m,s,id)=>[aj s.aa<=4294967295,n.ab.length=m.ab.length,d.af.length=m.af.length,n.ab.length<=4294967295,∀a∈m.ab,a.L.length+1<=4294967295,∀i:Nat,i<m.af.length->CP d n (c_ (ax s.aa id) id m.ab n.ab) s id (ax s.aa id) i (m.af.getD i bt)]) (fun(d,n,m,s,id)=>⟨[],[],[dX .jU (⟨c_ (ax s.aa id) id m.ab n.ab,D4 d n (c_ (ax s.aa id) id m.ab n.ab) s id (ax s.aa id) 0 m.af⟩:df)]⟩)
def yA(d:bY)(n:dE)(m:df)(s:ap)(id:Int):Int×List Bool×T3×T7×T1×T5×T2×Unit->Prop:=fun(i,h,q,b,c,e,g,_)=>b=(d.Name,d.af,())/\c=(n.ab,n.aC,())/\e=(s.aa,s.Next,())/\g=((ax s.aa id).Kind,(ax s.aa id).ak,())/\0<=i/\i<=n.ab.length/\h=qy (ax s.aa id) (n.ab.take i.toNat)/\q.2.1=m.af/\q.1=c_ (ax s.aa id) id (m.ab.take i.toNat) (n.ab.take i.toNat)++m.ab.drop i.toNat
def sD(d:bY)(n:dE)(m:df)(s:ap)(id:Int):Int×List Bool×T3×T7×T1×T5×T2×Unit->Nat:=fun(i,h,q,b,c,e,g,_)=>n.ab.length-i.toNat
def yB(d:bY)(n:dE)(m:df)(s:ap)(id:Int):Int×List Bool×T3×T7×T1×T5×T2×Unit->Prop:=fun(i,h,q,b,c,e,g,_)=>b=(d.Name,d.af,())/\c=(n.ab,n.aC,())/\e=(s.aa,s.Next,())/\g=((ax s.aa id).Kind,(ax s.aa id).ak,())/\0<=i/\i<=d.af.length/\h=qy (ax s.aa id) n.ab/\q.1=c_ (ax s.aa id) id m.ab n.ab/\q.2.1=(D4 d n (c_ (ax s.aa id) id m.ab n.ab) s id (ax s.aa id) 0 m.af).take i.toNat++m.af.drop i.toNat
def xR(d:bY)(n:dE)(m:df)(s:ap)(id:Int):Int×List Bool×T3×T7×T1×T5×T2×Unit->Nat:=fun(i,h,q,b,c,e,g,_)=>d.af.length-i.toNat
def alz:AX XE:=fun(d,n,m,s,id)=>bq [(4,az [iI 13,iO 12 .bool,.box 2 (2000002,0) [.own .cD true,.own .di true],.box 5 (5,1024) [.lit .str,.shr .cw],.box 6 (6,1024) [.shr .bI,.shr .ci],.box 8 (8,1024) [.shr .cg,.lit (.int .i64)],.box 10 (10,1024) [.lit .str,.own .bC true]] (fun _=>yA d n m s id) (sD d n m s id)),(11,az [iI 15,iO 12 .bool,.box 2 (2000002,0) [.own .cD true,.own .di true],.box 5 (5,1024) [.lit .str,.shr .cw],.box 6 (6,1024) [.shr .bI,.shr .ci],.box 8 (8,1024) [.shr .cg,.lit (.int .i64)],.box 10 (10,1024) [.lit .str,.own .bC true]] (fun _=>yB d n m s id) (xR d n m s id))]
def aj5:HH:=hF XE func101 [aci,ajd,ajc] alz fun x hp hb=>by
 obtain⟨d,n,m,s,id⟩:=x
 have aG:=gO (x:=d) (hb _ m0)
 have fj:=aG.1
 have ez:=aG.2
 have cr:=uN (x:=n) (hb _ m1)
 have iK:=cr.1
 have iJ:=cr.2
 have sW:=JF (x:=m) (hb _ m2)
 have nU:=sW.1
 have pb:=sW.2
 have eR:=eG (x:=s) (hb _ m3)
 have E8:=mL (n:=id) (hb _ m4)
 have bP:aj s.aa<=4294967295:=hp _ m0
 have jv:n.ab.length=m.ab.length:=hp _ m1
 have uZ:d.af.length=m.af.length:=hp _ m2
 have AD:n.ab.length<=4294967295:=hp _ m3
 have Oc:∀a∈m.ab,a.L.length+1<=4294967295:=hp _ m4
 have hp5:∀i:Nat,i<m.af.length->CP d n (c_ (ax s.aa id) id m.ab n.ab) s id (ax s.aa id) i (m.af.getD i bt):=hp _ m5
 clear hp hb
 apply vE (let q0:=ax s.aa id;let q1:=List bj×List bm×PUnit;let q2:=c_ q0 id m.ab n.ab;L4 (aj s.aa)/\yA d n m s id (0,[],(m.ab,m.af,()),(d.Name,d.af,()),(n.ab,n.aC,()),(s.aa,s.Next,()),(q0.Kind,q0.ak,()),())/\∀(y:Int×List Bool×Oi×JT×q1×Lh×J8×PUnit),let x0:=iG (y.2.2.2.2.1.1.getD y.1.toNat hJ) {Kind:=y.2.2.2.2.2.2.1.1,ak:=y.2.2.2.2.2.2.1.2.1:bf};let x2:=y.2.2.2.2.1.1.length;let x3:=(y.2.2.1.1.getD y.1.toNat cS).L;let x1:=(↑x2:Int);yA d n m s id y->bif decide (y.1<x1) then 0<=y.1/\y.1.toNat<x2/\y.2.1.length+List.length [x0]<=4294967296/\bif x0 then 0<=y.1/\y.1.toNat<y.2.2.1.1.length/\y.1.toNat<y.2.2.1.1.length/\x3.length+List.length [id]<=4294967296/\0<=y.1/\y.1.toNat<y.2.2.1.1.length/\y.1.toNat=y.1.toNat/\yA d n m s id (wrap i64 (y.1+1),y.2.1++[x0],(y.2.2.1.1.set y.1.toNat {L:=x3++[id]:b7},y.2.2.1.2),y.2.2.2)/\sD d n m s id (wrap i64 (y.1+1),y.2.1++[x0],(y.2.2.1.1.set y.1.toNat {L:=x3++[id]:b7},y.2.2.1.2),y.2.2.2)<sD d n m s id y else yA d n m s id (wrap i64 (y.1+1),y.2.1++[x0],y.2.2)/\sD d n m s id (wrap i64 (y.1+1),y.2.1++[x0],y.2.2)<sD d n m s id y else yB d n m s id (0,y.2)/\∀(y:Int×List Bool×Oi×JT×q1×Lh×J8×PUnit),let x5:=y.2.2.2.1.2.1.getD y.1.toNat aP;let x6:=(y.2.2.1.2.1.getD y.1.toNat bt).ao;let x7:=y.2.2.2.2.1.2.1.getD y.1.toNat b_;let x9:=y.2.2.2.1.2.1.length;let x4:=nJ x5 y.2.2.2.2.2.1.1 {Kind:=y.2.2.2.2.2.2.1.1,ak:=y.2.2.2.2.2.2.1.2.1:bf} x6;let x8:=(↑x9:Int);let q3:=(wrap i64 (y.1+1),y.2.1,(y.2.2.1.1,y.2.2.1.2.1.set y.1.toNat {ao:=qG x5 x7 y.2.2.1.1 y.2.2.2.2.2.1.1 id y.2.1 0 x4 [] []:dR},()),y.2.2.2);yB d n m s id y->bif decide (y.1<x8) then 0<=y.1/\y.1.toNat<x9/\0<=y.1/\y.1.toNat<y.2.2.2.2.1.2.1.length/\aj y.2.2.2.2.2.1.1<=4294967295/\cz x5.ai<=2147483647/\x5.ai.length<=4294967295/\0<=y.1/\y.1<(y.2.2.1.2.1.length:Int)/\0<x6.length/\oH (x5.ai.length) ((cB x5 true).length) (x6.getD (x6.length-1) aB).bi/\pN x5 x7 y.2.2.1.1 y.2.2.2.2.2.1.1 id y.2.1 0 x4 [] []/\yB d n m s id q3/\xR d n m s id q3<xR d n m s id y else LM [] [] [DV.box [CL .cD y.2.2.1.1,CL .di y.2.2.1.2.1]] [DV.box [CL .cD q2,CL .di (D4 d n q2 s id q0 0 m.af)]])
 dsimp only
 refine⟨by omega,⟨rfl,rfl,rfl,rfl,by omega,by omega,rfl,rfl,by simp[c_]⟩,?_⟩
 rintro⟨i,h,⟨al,rs,⟨⟩⟩,⟨b1,b2,⟨⟩⟩,⟨c1,c2,⟨⟩⟩,⟨e1,e2,⟨⟩⟩,⟨f1,f2,⟨⟩⟩,⟨⟩⟩ ⟨hb,hc,he,hf,h1,h2,hh,h3,h4⟩
 cases hb
 cases hc
 cases he
 cases hf
 replace h3:rs=m.af:=h3
 subst h3
 replace hh:h=qy (ax s.aa id) (n.ab.take i.toNat):=hh
 replace h4:al=c_ (ax s.aa id) id (m.ab.take i.toNat) (n.ab.take i.toNat)++m.ab.drop i.toNat:=h4
 simp only
 have hF:(⟨(ax s.aa id).Kind,(ax s.aa id).ak⟩:bf)=ax s.aa id:=rfl
 refine aE ?_ ?_<;>intro hc
 ·have hi:i.toNat<m.ab.length:=by omega
  obtain⟨z1,z2,z3⟩:=Om (fun(a:b7) x=>if iG x (ax s.aa id)=true then⟨a.L++[id]⟩ else a) (H:=m.ab) (h:=n.ab) (k:=i.toNat) cS hJ hi (by omega)
  have zT:al.length=m.ab.length:=by rw[h4];exact z3
  have J7:al.getD i.toNat cS=m.ab.getD i.toNat cS:=by rw[h4];exact z2
  have mS:=Oc _ (getDM cS hi)
  have hhl:h.length=i.toNat:=by rw[hh];unfold qy;rw[wj,mO];omega
  rw[hF,wi (n:=i+1)]
  have Rz:h++[iG (n.ab.getD i.toNat hJ) (ax s.aa id)]=qy (ax s.aa id) (n.ab.take (i+1).toNat):=by
   rw[hh,show(i+1).toNat=i.toNat+1 by omega,nL hJ (by omega)]
   unfold qy;rw[Em];rfl
  refine⟨h1,by omega,(show h.length+1<=4294967296 by omega),?_⟩
  refine ae ?_ ?_<;>intro q
  ·refine⟨h1,by omega,by omega,?_,h1,by omega,by trivial,⟨rfl,rfl,rfl,rfl,by omega,by omega,Rz,rfl,?_⟩,by simp only[sD];omega⟩
   ·rw[J7];simp only[iD,ii];omega
   ·show al.set i.toNat ⟨(al.getD i.toNat cS).L++[id]⟩=_
    rw[J7,h4,show(i+1).toNat=i.toNat+1 by omega]
    unfold c_
    rw[z1,if_pos q]
  ·refine⟨⟨rfl,rfl,rfl,rfl,by omega,by omega,Rz,rfl,?_⟩,by simp only[sD];omega⟩
   show al=_
   rw[show(i+1).toNat=i.toNat+1 by omega]
   unfold c_ at h4⊢
   rw[z1,if_neg (by rw[q];exact Bool.false_ne_true),<-z2,<-h4]
   exact(pM cS).symm
 ·have e:=CB (fun(a:b7) x=>if iG x (ax s.aa id)=true then⟨a.L++[id]⟩ else a) (H:=m.ab) (h:=n.ab) (k:=i.toNat) (by omega) (by omega)
  replace h4:al=c_ (ax s.aa id) id m.ab n.ab:=h4.trans e
  subst h4
  rw[EM (by omega)] at hh
  refine⟨⟨rfl,rfl,rfl,rfl,by omega,by omega,hh,rfl,rfl⟩,?_⟩
  clear e hh
  rintro⟨i',h',⟨al,rs,⟨⟩⟩,⟨b1,b2,⟨⟩⟩,⟨c1,c2,⟨⟩⟩,⟨e1,e2,⟨⟩⟩,⟨f1,f2,⟨⟩⟩,⟨⟩⟩ ⟨hb,jr,he,hf,k1,k2,k4,k3,k5⟩
  cases hb
  cases jr
  cases he
  cases hf
  replace k3:al=c_ (ax s.aa id) id m.ab n.ab:=k3
  subst k3
  replace k4:h'=qy (ax s.aa id) n.ab:=k4
  subst k4
  replace k5:rs=(D4 d n (c_ (ax s.aa id) id m.ab n.ab) s id (ax s.aa id) 0 m.af).take i'.toNat++m.af.drop i'.toNat:=k5
  simp only
  rw[hF]
  refine aE ?_ ?_<;>intro hk
  ·have hi:i'.toNat<m.af.length:=by omega
   obtain⟨q1,q2,q3⟩:=aeo (A:=D4 d n (c_ (ax s.aa id) id m.ab n.ab) s id (ax s.aa id) 0 m.af) (B:=m.af) bt (tP _ _ _ _ _ _ _ _) hi
   rw[<-k5] at q1 q2 q3
   rw[D3 _ _ _ _ _ _ _ _ _ hi,oz] at q2
   obtain⟨r1,r2,r3,r4,r5,r6⟩:=hp5 i'.toNat hi
   rw[q1,wi (n:=i'+1)]
   refine⟨k1,by omega,k1,r1,bP,r3,r2,k1,by omega,r4,r5,r6,⟨rfl,rfl,rfl,rfl,by omega,by omega,rfl,rfl,?_⟩,by simp only[xR];omega⟩
   show rs.set i'.toNat _=_
   rw[show(i'+1).toNat=i'.toNat+1 by omega,<-q2]
  ·have e:rs=D4 d n (c_ (ax s.aa id) id m.ab n.ab) s id (ax s.aa id) 0 m.af:=by
    rw[k5,List.drop_eq_nil_of_le (by omega),sI,EM (by rw[tP];omega)]
   rw[e]
   exact⟨by trivial,by trivial,rfl⟩
def jP(s:ap)(i:Nat):ap:=⟨s.aa.take (i+1),s.Next⟩
def Gq(s:ap)(i:Nat):Int:=(s.aa.getD i br).Id
def Mr(d:bY)(n:dE)(m:df)(s:ap)(id:Int):df:=⟨c_ (ax s.aa id) id m.ab n.ab,D4 d n (c_ (ax s.aa id) id m.ab n.ab) s id (ax s.aa id) 0 m.af⟩
def uV(d:bY)(n:dE)(s:ap):Nat->df
 |0=>mh n
 |i+1=>Mr d n (uV d n s i) (jP s i) (Gq s i)
def uW(d:bY)(n:dE)(s:ap):Nat->df
 |0=>mh n
 |i+1=>G0 d n (uW d n s i) (jP s i) (Gq s i)
def QB(d:bY)(n:dE)(m:df)(s:ap)(id:Int):Prop:=aj s.aa<=4294967295/\n.ab.length=m.ab.length/\d.af.length=m.af.length/\n.ab.length<=4294967295/\(∀a∈m.ab,a.L.length+1<=4294967295)/\∀i:Nat,i<m.af.length->CP d n (c_ (ax s.aa id) id m.ab n.ab) s id (ax s.aa id) i (m.af.getD i bt)
def QC(d:bY)(n:dE)(m:df)(s:ap)(id:Int):Prop:=aj s.aa<=4294967295/\n.ab.length=m.ab.length/\(∀a∈m.ab,a.L.length+1<=4294967295)/\∀i:Nat,i<m.af.length->If d n (c_ (ax s.aa id) id m.ab n.ab) s id i (m.af.getD i bt)
def af5:=bE (α:=bY×dE×ap) (qC (qA .jc) (qC (qA .mK) (q1 (qA .dW)))) [.ro,.ro,.ro] (fun(d,n,s)=>[n.ab.length<=4294967295,gf n,s.aa.length<=4294967295,∀i:Nat,i<s.aa.length->QB d n (uV d n s i) (jP s i) (Gq s i)]) (fun(d,n,s)=>⟨[dA .jU (uV d n s s.aa.length)],[],[]⟩)
def HB(d:bY)(n:dE)(s:ap):Int×T7×T1×T5×T3×T3×Unit->Prop:=fun(i,b,c,e,r,q,_)=>r=([],[],())/\b=(d.Name,d.af,())/\c=(n.ab,n.aC,())/\e=(s.aa,s.Next,())/\0<=i/\i<=s.aa.length/\q.1=(uV d n s i.toNat).ab/\q.2.1=(uV d n s i.toNat).af
def Hb(d:bY)(n:dE)(s:ap):Int×T7×T1×T5×T3×T3×Unit->Nat:=fun(i,b,c,e,r,q,_)=>s.aa.length-i.toNat
def ass:AX af5:=fun(d,n,s)=>bq [(3,az [iI 8,.box 3 (3,1024) [.lit .str,.shr .cw],.box 4 (4,1024) [.shr .bI,.shr .ci],.box 5 (5,1024) [.shr .cg,.lit (.int .i64)],.box 6 (6,1024) [.own .cD true,.own .di true],.box 7 (7,1024) [.own .cD true,.own .di true]] (fun _=>HB d n s) (Hb d n s))]
def arp:HH:=hF af5 func44 [aj6,aj5] ass fun x hp hb=>by
 obtain⟨d,n,s⟩:=x
 have aG:=gO (x:=d) (hb _ m0)
 have fj:=aG.1
 have ez:=aG.2
 have cr:=uN (x:=n) (hb _ m1)
 have iK:=cr.1
 have iJ:=cr.2
 have eR:=eG (x:=s) (hb _ m2)
 have bP:n.ab.length<=4294967295:=hp _ m0
 have jv:gf n:=hp _ m1
 have uZ:s.aa.length<=4294967295:=hp _ m2
 have AD:∀i:Nat,i<s.aa.length->QB d n (uV d n s i) (jP s i) (Gq s i):=hp _ m3
 clear hp hb
 apply vE (let x0:=Option.getD none (0:Int);n.ab.length<=4294967295/\gf n/\HB d n s (0,(d.Name,d.af,()),(n.ab,n.aC,()),(s.aa,s.Next,()),([],[],()),((mh n).ab,(mh n).af,()),())/\∀(y:Int×JT×T19×Lh×Oi×Oi×PUnit),let x4:=(y.2.2.2.1.1.getD y.1.toNat br).Id;let x6:={ab:=y.2.2.1.1,aC:=y.2.2.1.2.1:dE};let x7:=y.2.2.2.2.2.1.2.1.length;let x8:=y.2.2.2.1.1.length;let zI:={Name:=y.2.1.1,af:=y.2.1.2.1:bY};let vc:=y.2.2.1.1.length;let x5:=(↑x8:Int);let zH:=Option.getD (some (wrap i64 (y.1+1))) x5;let x3:=(y.2.2.2.1.1.take zH.toNat).drop x0.toNat;let x9:={aa:=x3,Next:=y.2.2.2.1.2.1:ap};let x2:=ax x3 x4;let x1:=c_ x2 x4 y.2.2.2.2.2.1.1 y.2.2.1.1;let q0:=(wrap i64 (y.1+1),y.2.1,y.2.2.1,y.2.2.2.1,y.2.2.2.2.1,(x1,D4 zI x6 x1 x9 x4 x2 0 y.2.2.2.2.2.1.2.1,()),());HB d n s y->bif decide (y.1<x5) then 0<=x0/\x0<=zH/\zH<=x5/\0<=y.1/\y.1.toNat<x8/\aj x3<=4294967295/\vc=y.2.2.2.2.2.1.1.length/\y.2.1.2.1.length=x7/\vc<=4294967295/\(∀(a:b7),a∈y.2.2.2.2.2.1.1->a.L.length+(1:Nat)<=(4294967295:Nat))/\(∀(i:Nat),i<x7->CP zI x6 x1 x9 x4 x2 i (y.2.2.2.2.2.1.2.1.getD i bt))/\HB d n s q0/\Hb d n s q0<Hb d n s y else Lf [DV.agg [CL .cD y.2.2.2.2.2.1.1,CL .di y.2.2.2.2.2.1.2.1]] [DV.agg [CL .cD (uV d n s (s.aa.length)).ab,CL .di (uV d n s (s.aa.length)).af]])
 dsimp only
 refine⟨bP,jv,⟨rfl,rfl,rfl,rfl,by omega,by omega,rfl,rfl⟩,?_⟩
 rintro⟨i,⟨b1,b2,⟨⟩⟩,⟨c1,c2,⟨⟩⟩,⟨e1,e2,⟨⟩⟩,⟨r1,r2,⟨⟩⟩,⟨al,rs,⟨⟩⟩,⟨⟩⟩ ⟨hr,hb,hc,he,h1,h2,ha,hq⟩
 cases hr
 cases hb
 cases hc
 cases he
 replace ha:al=(uV d n s i.toNat).ab:=ha
 replace hq:rs=(uV d n s i.toNat).af:=hq
 subst al rs
 simp only
 refine aE ?_ ?_<;>intro hk
 ·rw[wi (n:=i+1)]
  have e:(s.aa.take (Int.toNat (Option.getD (some (i+1)) (s.aa.length:Int)))).drop (Int.toNat (Option.getD none (0:Int)))=s.aa.take (i.toNat+1):=by
   show List.drop 0 (s.aa.take (i+1).toNat)=_
   rw[List.drop_zero,show(i+1).toNat=i.toNat+1 by omega]
  obtain⟨f1,f2,f3,f4,f5,f6⟩:=AD i.toNat (by omega)
  rw[e]
  refine⟨Int.le_refl 0,(show(0:Int)<=i+1 by omega),(show i+1<=(s.aa.length:Int) by omega),h1,by omega,f1,f2,f3,f4,f5,f6,⟨rfl,rfl,rfl,rfl,by omega,by omega,?_,?_⟩,by simp only[Hb];omega⟩
  ·rw[show(i+1).toNat=i.toNat+1 by omega];rfl
  ·rw[show(i+1).toNat=i.toNat+1 by omega];rfl
 ·rw[show i.toNat=s.aa.length by omega]
  exact aO _
def afP:=bE (α:=bY×ap) (qC (qA .jc) (q1 (qA .dW))) [.ro,.ro] (fun(d,s)=>[bo d<=4294967295,(bg d).ab.length<=4294967295,gf (bg d),s.aa.length<=4294967295,∀i:Nat,i<s.aa.length->QC d (bg d) (uW d (bg d) s i) (jP s i) (Gq s i)]) (fun(d,s)=>⟨[dA .jU (uW d (bg d) s s.aa.length)],[],[]⟩)
def Hr(d:bY)(s:ap):Int×T7×T5×T1×T3×T3×Unit->Prop:=fun(i,b,e,c,r,q,_)=>r=([],[],())/\b=(d.Name,d.af,())/\c=((bg d).ab,(bg d).aC,())/\e=(s.aa,s.Next,())/\0<=i/\i<=s.aa.length/\q.1=(uW d (bg d) s i.toNat).ab/\q.2.1=(uW d (bg d) s i.toNat).af
def G5(d:bY)(s:ap):Int×T7×T5×T1×T3×T3×Unit->Nat:=fun(i,b,e,c,r,q,_)=>s.aa.length-i.toNat
def asb:AX afP:=fun(d,s)=>bq [(4,az [iI 16,.box 2 (2,1024) [.lit .str,.shr .cw],.box 3 (3,1024) [.shr .cg,.lit (.int .i64)],.box 5 (5,1024) [.shr .bI,.shr .ci],.box 4 (4,1024) [.own .cD true,.own .di true],.box 6 (6,1024) [.own .cD true,.own .di true]] (fun _=>Hr d s) (G5 d s))]
def aq6:HH:=hF afP func68 [ajE,ajD,ajC] asb fun x hp hb=>by
 obtain⟨d,s⟩:=x
 have aG:=gO (x:=d) (hb _ m0)
 have fj:=aG.1
 have ez:=aG.2
 have eR:=eG (x:=s) (hb _ m1)
 have bP:bo d<=4294967295:=hp _ m0
 have jv:(bg d).ab.length<=4294967295:=hp _ m1
 have uZ:gf (bg d):=hp _ m2
 have AD:s.aa.length<=4294967295:=hp _ m3
 have Oc:∀i:Nat,i<s.aa.length->QC d (bg d) (uW d (bg d) s i) (jP s i) (Gq s i):=hp _ m4
 clear hp hb
 apply vE (let x0:=Option.getD none (0:Int);let q0:=uW d (bg d) s (s.aa.length);bo d<=4294967295/\(bg d).ab.length<=4294967295/\gf (bg d)/\Hr d s (0,(d.Name,d.af,()),(s.aa,s.Next,()),((bg d).ab,(bg d).aC,()),([],[],()),((mh (bg d)).ab,(mh (bg d)).af,()),())/\∀(y:Int×JT×Lh×T19×Oi×Oi×PUnit),let x3:={ab:=y.2.2.2.1.1,aC:=y.2.2.2.1.2.1:dE};let x5:={Name:=y.2.1.1,af:=y.2.1.2.1:bY};let x6:=(y.2.2.1.1.length:Int);let x8:=(s.aa.getD y.1.toNat br).Id;let x4:=Option.getD (some (wrap i64 (y.1+1))) x6;let x2:=(y.2.2.1.1.take x4.toNat).drop x0.toNat;let x7:={aa:=x2,Next:=y.2.2.1.2.1:ap};let x1:=G0 x5 x3 {ab:=y.2.2.2.2.2.1.1,af:=y.2.2.2.2.2.1.2.1:df} x7 x8;let q1:=(wrap i64 (y.1+1),y.2.1,y.2.2.1,y.2.2.2.1,y.2.2.2.2.1,(x1.ab,x1.af,()),());Hr d s y->bif decide (y.1<(s.aa.length:Int)) then 0<=y.1/\y.1.toNat<s.aa.length/\0<=x0/\x0<=x4/\x4<=x6/\aj x2<=4294967295/\y.2.2.2.1.1.length=y.2.2.2.2.2.1.1.length/\(∀(a:b7),a∈y.2.2.2.2.2.1.1->a.L.length+(1:Nat)<=(4294967295:Nat))/\(∀(i:Nat),i<y.2.2.2.2.2.1.2.1.length->If x5 x3 (c_ (ax x2 x8) x8 y.2.2.2.2.2.1.1 y.2.2.2.1.1) x7 x8 i (y.2.2.2.2.2.1.2.1.getD i bt))/\Hr d s q1/\G5 d s q1<G5 d s y else Lf [DV.agg [CL .cD y.2.2.2.2.2.1.1,CL .di y.2.2.2.2.2.1.2.1]] [DV.agg [CL .cD q0.ab,CL .di q0.af]])
 dsimp only
 refine⟨bP,jv,uZ,⟨rfl,rfl,rfl,rfl,by omega,by omega,rfl,rfl⟩,?_⟩
 rintro⟨i,⟨b1,b2,⟨⟩⟩,⟨e1,e2,⟨⟩⟩,⟨c1,c2,⟨⟩⟩,⟨r1,r2,⟨⟩⟩,⟨al,rs,⟨⟩⟩,⟨⟩⟩ ⟨hr,hb,hc,he,h1,h2,ha,hq⟩
 cases hr
 cases hb
 cases hc
 cases he
 replace ha:al=(uW d (bg d) s i.toNat).ab:=ha
 replace hq:rs=(uW d (bg d) s i.toNat).af:=hq
 subst al rs
 simp only
 refine aE ?_ ?_<;>intro hk
 ·rw[wi (n:=i+1)]
  have e:(s.aa.take (Int.toNat (Option.getD (some (i+1)) (s.aa.length:Int)))).drop (Int.toNat (Option.getD none (0:Int)))=s.aa.take (i.toNat+1):=by
   show List.drop 0 (s.aa.take (i+1).toNat)=_
   rw[List.drop_zero,show(i+1).toNat=i.toNat+1 by omega]
  obtain⟨f1,f2,f5,f6⟩:=Oc i.toNat (by omega)
  rw[e]
  refine⟨h1,by omega,Int.le_refl 0,(show(0:Int)<=i+1 by omega),(show i+1<=(s.aa.length:Int) by omega),f1,f2,f5,f6,⟨rfl,rfl,rfl,rfl,by omega,by omega,?_,?_⟩,by simp only[G5];omega⟩
  ·rw[show(i+1).toNat=i.toNat+1 by omega];rfl
  ·rw[show(i+1).toNat=i.toNat+1 by omega];rfl
 ·rw[show i.toNat=s.aa.length by omega]
  exact aO _
theorem DB{α:Type}(z:α):∀{a b:List α},a.length=b.length->(∀k,k<a.length->a.getD k z=b.getD k z)->a=b
 |[],[],_,_=>rfl
 |[],_::_,h,_=>by cases h
 |_::_,[],h,_=>by cases h
 |x::a,y::b,h,hk=>by
  have h0:x=y:=hk 0 (Nat.zero_lt_succ _)
  rw[h0,DB z (Nat.succ.inj h) fun k fx=>hk (k+1) (Nat.succ_lt_succ fx)]
def zN(d:bY)(B:Int)(N:Nat)(m:df):Prop:=m.ab.length=(bg d).ab.length/\m.af.length=d.af.length/\(∀a∈m.ab,a.L.Nodup/\a.L.length<=N/\∀x∈a.L,x<B)/\
 ∀i,i<d.af.length->tr B N (cB (d.af.getD i aP) false).length (cB (d.af.getD i aP) true).length 0 (m.af.getD i bt).ao
theorem QS{f:bf}{id B:Int}{N:Nat}(hB:B<=id){al:List b7}{na:List bj}(h:∀a∈al,a.L.Nodup/\a.L.length<=N/\∀x∈a.L,x<B):∀a∈c_ f id al na,a.L.Nodup/\a.L.length<=N+1/\∀x∈a.L,x<id+1:=by
 unfold c_
 refine FR _ _ _ _ fun a ha x _=> ?_
 obtain⟨h1,h2,h3⟩:=h a ha
 split
 ·refine⟨?_,?_,fun y hy=> ?_⟩
  ·rw[nH]
   exact⟨h1,by simp,fun x hx y hy e=>by rw[g_] at hy;subst e hy;have:=h3 _ hx;omega⟩
  ·rw[kF,iD,ii];omega
  ·rw[gA,g_] at hy
   rcases hy with hy|rfl
   ·have:=h3 y hy;omega
   ·omega
 ·exact⟨h1,by omega,fun y hy=>by have:=h3 y hy;omega⟩
theorem IA{B:Int}{N n h:Nat}:∀{ls:List aq}{k:Nat},tr B N n h k ls->ls≠[]->∀t∈(ls.getD (ls.length-1) aB).bi,t.b9.length=n/\t.db.length=h
 |[],_,_,hn=>absurd rfl hn
 |[v],k,hv,_=>by
  obtain⟨⟨_,_,h3⟩,h4⟩:=hv
  replace h4:k+1=n:=h4
  rw[if_pos h4] at h3
  intro t ht
  obtain⟨q1,q2,_⟩:=h3 t ht
  exact⟨by omega,q2⟩
 |v::w::vs,k,hv,_=>IA (ls:=w::vs) hv.2 (by simp)
theorem F4{d:bY}(hd:gJ d=true){i:Nat}(hi:i<d.af.length):jD (d.af.getD i aP)=true:=by
 simp only[gJ,fY] at hd
 have:=ew.1 hd.2 i hi
 simp only[kl,fY] at this
 exact this.1
theorem Pk{d:bY}{m:df}{s:ap}{id B:Int}{N:Nat}(hd:gJ d=true)(hm:zN d B N m)(hN:N<40)(hB:B<=id)(hs:s.aa.length=N+1)(hz:aj s.aa<=4294967295)(hnl:(bg d).ab.length<=4294967295):
  QB d (bg d) m s id/\QC d (bg d) m s id/\Mr d (bg d) m s id=G0 d (bg d) m s id/\zN d (id+1) (N+1) (G0 d (bg d) m s id):=by
 obtain⟨m1,m2,m3,m4⟩:=hm
 obtain⟨nl,nf⟩:=ua d
 have zT:=QS (f:=ax s.aa id) (na:=(bg d).ab) hB m3
 have ox:(c_ (ax s.aa id) id m.ab (bg d).ab).length=(bg d).ab.length:=by
  unfold c_;rw[List.length_zipWith,m1,Nat.min_self]
 have mS:∀a∈m.ab,a.L.length+1<=4294967295:=fun a ha=>by have:=(m3 a ha).2.1;omega
 have key:∀i,i<d.af.length->
   If d (bg d) (c_ (ax s.aa id) id m.ab (bg d).ab) s id i (m.af.getD i bt)/\
   CP d (bg d) (c_ (ax s.aa id) id m.ab (bg d).ab) s id (ax s.aa id) i (m.af.getD i bt)/\
   qG (d.af.getD i aP) ((bg d).aC.getD i b_) (c_ (ax s.aa id) id m.ab (bg d).ab) s.aa id (qy (ax s.aa id) (bg d).ab) 0 (nJ (d.af.getD i aP) s.aa (ax s.aa id) (m.af.getD i bt).ao) [] []=
    pk (GL d (bg d) (c_ (ax s.aa id) id m.ab (bg d).ab) s id i) 0 (zo (GL d (bg d) (c_ (ax s.aa id) id m.ab (bg d).ab) s id i) (m.af.getD i bt).ao) [] []/\
   tr (id+1) (N+1) (cB (d.af.getD i aP) false).length (cB (d.af.getD i aP) true).length 0 (pk (GL d (bg d) (c_ (ax s.aa id) id m.ab (bg d).ab) s id i) 0 (zo (GL d (bg d) (c_ (ax s.aa id) id m.ab (bg d).ab) s id i) (m.af.getD i bt).ao) [] []):=by
  intro i hi
  obtain⟨r1,r2,r3,r4,r5,r6⟩:=vu (F4 hd hi)
  obtain⟨c1,c2⟩:=nf i hi
  have hl:=m4 i hi
  have A:vv (GL d (bg d) (c_ (ax s.aa id) id m.ab (bg d).ab) s id i) (d.af.getD i aP) ((bg d).aC.getD i b_) (c_ (ax s.aa id) id m.ab (bg d).ab) s id (bg d).ab:=
   ⟨rfl,rfl,rfl,rfl,rfl,rfl,r1,ox.symm,c1⟩
  have ND:∀k,k<(cB (d.af.getD i aP) false).length->k<((bg d).aC.getD i b_).Pos.length/\0<=((bg d).aC.getD i b_).Pos.getD k 0/\((bg d).aC.getD i b_).Pos.getD k 0<(c_ (ax s.aa id) id m.ab (bg d).ab).length:=fun k hk=>by
   have bp:k<((bg d).aC.getD i b_).Pos.length:=by rw[c1.1];exact hk
   obtain⟨q1,q2,_⟩:=c1.2 k bp
   exact⟨bp,q1,by rw[ox];exact q2⟩
  have aeE:=LN (g:=GL d (bg d) (c_ (ax s.aa id) id m.ab (bg d).ab) s id i) hN _ 0 hl
  obtain⟨ok,lv⟩:=L8 (g:=GL d (bg d) (c_ (ax s.aa id) id m.ab (bg d).ab) s id i) hN r3 hB hs ND (fun k hk=>by
   obtain⟨q1,q2,q3⟩:=ND k hk
   exact zT _ (getDM cS (show(((bg d).aC.getD i b_).Pos.getD k 0).toNat<_ by omega))) _ 0 [] [] aeE (fun _=>⟨rfl,rfl⟩)
  obtain⟨fit,eq⟩:=Lz A _ 0 [] [] ok (vF aeE) (fun _=>⟨rfl,rfl⟩)
  have ht:=H_ A hN _ 0 hl
  have hlen:=qM hl
  have cO:(m.af.getD i bt).ao≠[]:=fun e=>by rw[e,ii] at hlen;omega
  have hla:=IA hl cO
  have wl:(cB (d.af.getD i aP) false).length<=(d.af.getD i aP).ai.length:=Lo _ _
  refine⟨⟨hi,by omega,by omega,by omega,by omega,fun t h=>⟨Nat.le_of_eq (hla t h).1,(hla t h).2⟩,ok⟩,⟨by omega,by omega,by omega,by omega,fun t h=>⟨by have:=(hla t h).1;omega,(hla t h).2⟩,by rw[ht];exact fit⟩,by rw[ht];exact eq,lv⟩
 refine⟨⟨hz,m1.symm,m2.symm,hnl,mS,fun i hi=>(key i (by omega)).2.1⟩,⟨hz,m1.symm,mS,fun i hi=>(key i (by omega)).1⟩,?_,?_⟩
 ·unfold Mr G0
  congr 1
  refine DB bt (by rw[tP,tQ]) fun k hk=> ?_
  rw[tP] at hk
  rw[D3 _ _ _ _ _ _ _ _ _ hk,xD _ _ _ _ _ _ _ _ hk,oz,(key k (by omega)).2.2.1]
 ·refine⟨ox,by show(EH _ _ _ _ _ _ _).length=_;rw[tQ];exact m2,zT,fun i hi=> ?_⟩
  show tr _ _ _ _ 0 ((EH _ _ _ _ _ _ _).getD i bt).ao
  rw[xD _ _ _ _ _ _ _ _ (by omega),oz]
  exact(key i hi).2.2.2
theorem LL(B:Int)(n h:Nat):∀(j k:Nat),k+j=n->tr B 0 n h k (List.replicate j aB)
 |0,k,e=>e
 |j+1,k,e=>by
  rw[List.replicate_succ]
  exact⟨⟨MH,Nat.zero_le _,fun t ht=>by cases ht⟩,LL B n h j (k+1) (by omega)⟩
theorem S3(d:bY)(B:Int):zN d B 0 (mh (bg d)):=by
 obtain⟨nl,nf⟩:=ua d
 refine⟨X1,by show(List.map _ _).length=_;rw[wj];exact nl,fun a ha=> ?_,fun i hi=> ?_⟩
 ·have:=(List.mem_replicate.1 ha).2
  subst this
  exact⟨MH,og _,fun x hx=>by cases hx⟩
 ·have:(mh (bg d)).af.getD i bt=⟨List.replicate ((bg d).aC.getD i b_).Pos.length aB⟩:=by
   show(List.map _ _).getD i bt=_
   have od:i<(bg d).aC.length:=by omega
   rw[gh,mE,gr od,gh,gr od];rfl
  rw[this]
  exact LL B _ _ _ 0 (by rw[oz];exact(nf i hi).1.1)
def abo(s:ap):Nat->Int
 |0=>Gq s 0
 |i+1=>Gq s i+1
theorem size_take(l:List bW)(n:Nat):aj (l.take n)<=aj l:=by
 have e:aj l=aj (l.take n)+aj (l.drop n):=by
  have h1:l.length=(l.take n).length+(l.drop n).length:=by rw[<-kF,HS]
  have h2:(l.map ep).sum=((l.take n).map ep).sum+((l.drop n).map ep).sum:=by rw[<-zet,<-Em,HS]
  unfold aj
  omega
 omega
theorem AA{d:bY}{s:ap}(hd:gJ d=true)(hs:eB s=true)(hz:aj s.aa<=4294967295)(hsd:bo d<=4294967295):∀i,i<=s.aa.length->
  (uW d (bg d) s i=uV d (bg d) s i/\zN d (abo s i) i (uW d (bg d) s i))/\∀k,k<i->QB d (bg d) (uV d (bg d) s k) (jP s k) (Gq s k)/\QC d (bg d) (uW d (bg d) s k) (jP s k) (Gq s k)
 |0,_=>⟨⟨rfl,S3 d _⟩,fun k hk=>absurd hk (Nat.not_lt_zero _)⟩
 |i+1,hi=>by
  obtain⟨⟨h1,h2⟩,h3⟩:=AA hd hs hz hsd i (by omega)
  have hn:(bg d).ab.length<=4294967295:=by
   have:=(Gh hsd).1
   rw[C2 hd] at this
   exact this
  have nd:=hs
  simp only[eB,fY,decide_eq_true_eq] at nd
  have hb:abo s i<=Gq s i:=by
   cases i with
   |zero=>exact Int.le_refl _
   |succ i=>
    have:=JG (s:=s) (fun j hj=>by
     have:=ew.1 nd.2 j hj
     simp only[oa,fY] at this
     exact this.1) i (i+1) (by omega) (by omega)
    show Gq s i+1<=Gq s (i+1)
    unfold Gq
    omega
  obtain⟨q1,q2,q3,q4⟩:=Pk (s:=jP s i) (id:=Gq s i) hd h2 (by omega) hb (by show(s.aa.take (i+1)).length=_;rw[mO];omega) (En (size_take _ _) hz) hn
  rw[h1] at q1
  refine⟨⟨?_,q4⟩,fun k hk=> ?_⟩
  ·show G0 d (bg d) (uW d (bg d) s i) (jP s i) (Gq s i)=Mr d (bg d) (uV d (bg d) s i) (jP s i) (Gq s i)
   rw[<-q3,h1]
  ·by_cases hki:k<i
   ·exact h3 k hki
   ·rw[show k=i by omega];exact⟨q1,q2⟩
def Ka(n h:Int)(t:au):Bool:=decide ((t.b9.length:Int)=n)&&decide ((t.db.length:Int)=h)
def zJ(n h:Int)(l:List au):Bool:=allI l.length fun j=>Ka n h (l.getD j aT)
def vr(c:bm)(r:dR)(k:Nat):Bool:=zJ ((k:Int)+1) (if(k:Int)=(c.Pos.length:Int)-1 then c.Neg.length else 0) (r.ao.getD k aB).bi
def te(n:dE)(m:df)(i:Nat):Bool:=decide (((m.af.getD i bt).ao.length:Int)=(n.aC.getD i b_).Pos.length)&&allI (n.aC.getD i b_).Pos.length (vr (n.aC.getD i b_) (m.af.getD i bt))
def ke(n:dE)(m:df):Bool:=decide ((m.ab.length:Int)=n.ab.length)&&decide ((m.af.length:Int)=n.aC.length)&&allI m.af.length (te n m)
def m_(a b:List au):Bool:=decide ((a.length:Int)=b.length)&&allI a.length fun j=>decide (a.getD j aT∈b)&&decide (b.getD j aT∈a)
theorem abj(x y:au):x=y↔x.b9=y.b9/\x.db=y.db:=by cases x;cases y;simp[au.mk.injEq]
def XD:=bE (α:=(List au)×Int×Int) (qC (qL .bO) (qC qI (q1 qI))) [.ro,.ro,.ro] (fun _=>[]) (fun(l,ids,ja)=>⟨[dO (zJ ids ja l)],[],[]⟩)
def Cx(l:List au)(ids:Int)(ja:Int):Int×Unit->Prop:=fun(i,_)=>0<=i/\i<=l.length/\∀j:Nat,(j:Int)<i->Ka ids ja (l.getD j aT)=true
def BG(l:List au)(ids:Int)(ja:Int):Int×Unit->Nat:=fun(i,_)=>l.length-i.toNat
def aly:AX XD:=fun(l,ids,ja)=>bq [(2,az [iI 7] (fun _=>Cx l ids ja) (BG l ids ja))]
def aj4:HH:=hF XD func102 [] aly fun x hp hb=>by
 obtain⟨l,ids,ja⟩:=x
 have nV:L9 l.length:=eD (hb _ m0)
 have GC:=mL (n:=ids) (hb _ m1)
 have alE:=mL (n:=ja) (hb _ m2)
 clear hp hb
 apply vE (let q0:=zJ ids ja l;Cx l ids ja (0,())/\∀(y:Int×PUnit),let q1:=(wrap i64 (y.1+1),());Cx l ids ja y->bif decide (y.1<(l.length:Int)) then 0<=y.1/\y.1.toNat<l.length/\bif (↑((l.getD y.1.toNat aT).b9.length):Int) !=ids then Lb false q0 else 0<=y.1/\y.1.toNat<l.length/\bif (↑((l.getD y.1.toNat aT).db.length):Int) !=ja then Lb false q0 else Cx l ids ja q1/\BG l ids ja q1<BG l ids ja y else Lb true q0)
 dsimp only
 refine⟨⟨by omega,by omega,fun j hj=>by omega⟩,?_⟩
 rintro⟨i,⟨⟩⟩ ⟨h1,h2,hR⟩
 simp only
 refine aE ?_ ?_<;>intro hc
 ·have hi:i.toNat<l.length:=by omega
  have no:Ka ids ja (l.getD i.toNat aT)=false->Lf [DV.one (Cell.lit (Value.bool false))] [DV.one (Cell.lit (Value.bool (zJ ids ja l)))]:=fun h=>aQ (cE hi h)
  refine⟨h1,hi,k_ (fun g=>no ?_) (fun g=>⟨h1,hi,k_ (fun g'=>no ?_) (fun g'=> ?_)⟩)⟩
  ·unfold Ka;rw[decide_eq_false g,mD]
  ·unfold Ka;rw[decide_eq_false g',qq]
  ·rw[wi (n:=i+1)]
   exact⟨⟨by omega,by omega,cu h1 hR (by unfold Ka;rw[decide_eq_true g,decide_eq_true g'];rfl)⟩,by simp only[BG];omega⟩
 ·exact jN (cR fun j hj=>hR j (by omega))
def af4:=bE (α:=dE×df) (qC (qA .mK) (q1 (qA .jU))) [.ro,.ro] (fun(n,m)=>[gf n]) (fun(n,m)=>⟨[dO (ke n m)],[],[]⟩)
def HA(n:dE)(m:df):Int×T1×T3×Unit->Prop:=fun(i,b,c,_)=>b=(n.ab,n.aC,())/\c=(m.ab,m.af,())/\m.ab.length=n.ab.length/\m.af.length=n.aC.length/\0<=i/\i<=m.af.length/\∀j:Nat,(j:Int)<i->te n m j=true
def Ha(n:dE)(m:df):Int×T1×T3×Unit->Nat:=fun(i,b,c,_)=>m.af.length-i.toNat
def BJ(n:dE)(m:df):Int×Int×T1×T3×Unit->Int×Int×T1×T3×Unit->Prop:=fun(i0,k0,b0,c0,_) (i,k,b,c,_)=>i=i0/\b=b0/\c=c0/\0<=k/\k<=(n.aC.getD i0.toNat b_).Pos.length/\∀j:Nat,(j:Int)<k->vr (n.aC.getD i0.toNat b_) (m.af.getD i0.toNat bt) j=true
def xF(n:dE)(m:df):Int×Int×T1×T3×Unit->Nat:=fun(i,k,b,c,_)=>(n.aC.getD i.toNat b_).Pos.length-k.toNat
def asr:AX af4:=fun(n,m)=>bq [(4,az [iI 5,.box 2 (2,1024) [.shr .bI,.shr .ci],.box 3 (3,1024) [.shr .cD,.shr .di]] (fun _=>HA n m) (Ha n m)),(10,az [iI 5,iI 7,.box 2 (2,1024) [.shr .bI,.shr .ci],.box 3 (3,1024) [.shr .cD,.shr .di]] (BJ n m) (xF n m))]
def aro:HH:=hF af4 func45 [aj4] asr fun x hp hb=>by
 obtain⟨n,m⟩:=x
 have aG:=uN (x:=n) (hb _ m0)
 have iK:=aG.1
 have iJ:=aG.2
 have cr:=p6 (x:=m) (hb _ m1)
 have nU:=cr.1
 have pb:=cr.2
 have bP:gf n:=hp _ m0
 clear hp hb
 apply vE (let q0:=Lb false (ke n m);let q1:=List bj×List bm×PUnit;bif (m.ab.length:Int) !=(n.ab.length:Int) then q0 else bif (m.af.length:Int) !=(n.aC.length:Int) then q0 else HA n m (0,(n.ab,n.aC,()),(m.ab,m.af,()),())/\∀(y:Int×q1×Oi×PUnit),let x0:=(↑((y.2.1.2.1.getD y.1.toNat b_).Pos.length):Int);let x2:=y.2.2.1.2.1.length;let x1:=(↑x2:Int);let q2:=(y.1,0,y.2);HA n m y->bif decide (y.1<x1) then 0<=y.1/\y.1.toNat<y.2.1.2.1.length/\0<=y.1/\y.1.toNat<x2/\bif (↑((y.2.2.1.2.1.getD y.1.toNat bt).ao.length):Int) !=x0 then q0 else BJ n m q2 q2/\∀(av:Int×Int×q1×Oi×PUnit),let x4:=(av.2.2.2.1.2.1.getD av.1.toNat bt).ao;let x5:=wrap i64 (av.2.1+1);let x6:=av.2.1.toNat;let x3:=(x4.getD x6 aB).bi;let q3:=BJ n m q2 (av.1,x5,av.2.2)/\xF n m (av.1,x5,av.2.2)<xF n m av;let q4:=(wrap i64 (av.1+1),av.2.2);BJ n m q2 av->bif decide (av.2.1<x0) then bif av.2.1==wrap i64 (x0-1) then 0<=av.1/\av.1.toNat<av.2.2.1.2.1.length/\0<=av.1/\av.1.toNat<av.2.2.2.1.2.1.length/\0<=av.2.1/\x6<x4.length/\bif !zJ x5 (↑((av.2.2.1.2.1.getD av.1.toNat b_).Neg.length):Int) x3 then q0 else q3 else 0<=av.1/\av.1.toNat<av.2.2.2.1.2.1.length/\0<=av.2.1/\x6<x4.length/\bif !zJ x5 0 x3 then q0 else q3 else HA n m q4/\Ha n m q4<Ha n m y else Lb true (ke n m))
 dsimp only
 refine k_ (fun g=>aQ (by unfold ke;rw[decide_eq_false g,mD,mD])) (fun g1=>k_ (fun g=>aQ (by unfold ke;rw[decide_eq_false g,qq,mD])) (fun g2=>⟨⟨rfl,rfl,by omega,by omega,by omega,by omega,fun j hj=>by omega⟩,?_⟩))
 rintro⟨i,⟨a1,a2,⟨⟩⟩,⟨b1,b2,⟨⟩⟩,⟨⟩⟩ ⟨hb,hc,h3,h4,h1,h2,hR⟩
 cases hb
 cases hc
 simp only
 refine aE ?_ ?_<;>intro hc
 ·have hi:i.toNat<m.af.length:=by omega
  have no:te n m i.toNat=false->Lf [DV.one (Cell.lit (Value.bool false))] [DV.one (Cell.lit (Value.bool (ke n m)))]:=fun h=>aQ (by unfold ke;rw[cE hi h,qq])
  have wl:(n.aC.getD i.toNat b_).Pos.length<=4294967295:=bP.2 _ (getDM b_ (by omega))
  have fa:n.aC.length<=4294967295:=bP.1
  refine⟨h1,by omega,h1,hi,k_ (fun g=>no (by unfold te;rw[decide_eq_false g,mD])) (fun g=>⟨⟨rfl,rfl,rfl,by omega,by omega,fun j hj=>by omega⟩,?_⟩)⟩
  rintro⟨i',k,⟨a1,a2,⟨⟩⟩,⟨b1,b2,⟨⟩⟩,⟨⟩⟩ ⟨z1,z2,z3,k1,k2,kR⟩
  replace z1:i'=i:=z1
  subst i'
  cases z2
  cases z3
  replace k2:k<=(n.aC.getD i.toNat b_).Pos.length:=k2
  replace kR:∀j:Nat,(j:Int)<k->vr (n.aC.getD i.toNat b_) (m.af.getD i.toNat bt) j=true:=kR
  simp only
  rw[wrap_i64 (n:=(((n.aC.getD i.toNat b_).Pos.length:Int)-1)) (by omega) (by omega)]
  refine aE ?_ ?_<;>intro hk
  ·have tG:k.toNat<(n.aC.getD i.toNat b_).Pos.length:=by omega
   have wM:vr (n.aC.getD i.toNat b_) (m.af.getD i.toNat bt) k.toNat=zJ (k+1) (if k=((n.aC.getD i.toNat b_).Pos.length:Int)-1 then(n.aC.getD i.toNat b_).Neg.length else 0) ((m.af.getD i.toNat bt).ao.getD k.toNat aB).bi:=by
    unfold vr;rw[show((k.toNat:Nat):Int)=k by omega]
   have no':vr (n.aC.getD i.toNat b_) (m.af.getD i.toNat bt) k.toNat=false->Lf [DV.one (Cell.lit (Value.bool false))] [DV.one (Cell.lit (Value.bool (ke n m)))]:=fun h=>no (by unfold te;rw[cE tG h,qq])
   rw[wi (n:=k+1)]
   refine mn ?_ ?_<;>intro hq
   ·rw[if_pos hq] at wM
    refine⟨h1,by omega,h1,hi,k1,by omega,bT (fun g'=>no' (wM.trans g')) (fun g'=>⟨⟨rfl,rfl,rfl,by omega,by omega,cu k1 kR (wM.trans g')⟩,by simp only[xF];omega⟩)⟩
   ·rw[if_neg hq] at wM
    refine⟨h1,hi,k1,by omega,bT (fun g'=>no' (wM.trans g')) (fun g'=>⟨⟨rfl,rfl,rfl,by omega,by omega,cu k1 kR (wM.trans g')⟩,by simp only[xF];omega⟩)⟩
  ·rw[wi (n:=i+1)]
   refine⟨⟨rfl,rfl,h3,h4,by omega,by omega,cu h1 hR ?_⟩,by simp only[Ha];omega⟩
   unfold te
   rw[decide_eq_true g,cR fun j hj=>kR j (by omega)];rfl
 ·refine jN ?_
  unfold ke
  rw[decide_eq_true g1,decide_eq_true g2,cR fun j hj=>hR j (by omega)];rfl
def XC:=bE (α:=(List au)×au) (qC (qL .bO) (q1 (qA .bO))) [.ro,.ro] (fun _=>[]) (fun(l,t)=>⟨[dO (decide (t∈l))],[],[]⟩)
def Cw(l:List au)(t:au):Int×T6×Unit->Prop:=fun(i,b,_)=>b=(t.b9,t.db,())/\0<=i/\i<=l.length/\∀j:Nat,(j:Int)<i->¬l.getD j aT=t
def xQ(l:List au)(t:au):Int×T6×Unit->Nat:=fun(i,b,_)=>l.length-i.toNat
def alx:AX XC:=fun(l,t)=>bq [(2,az [iI 5,.box 3 (3,1024) [.shr .int,.shr .int]] (fun _=>Cw l t) (xQ l t))]
def aj3:HH:=hF XC func103 [ack] alx fun x hp hb=>by
 obtain⟨l,t⟩:=x
 have nV:L9 l.length:=eD (hb _ m0)
 have cr:=p5 (x:=t) (hb _ m1)
 have PX:=cr.1
 have NH:=cr.2
 clear hp hb
 apply vE (Cw l t (0,(t.b9,t.db,()),())/\∀(y:Int×T20×PUnit),let q0:=Cw l t (wrap i64 (y.1+1),y.2)/\xQ l t (wrap i64 (y.1+1),y.2)<xQ l t y;Cw l t y->bif decide (y.1<(l.length:Int)) then 0<=y.1/\y.1.toNat<l.length/\bif decide ((l.getD y.1.toNat aT).b9=y.2.1.1) then 0<=y.1/\y.1.toNat<l.length/\bif decide ((l.getD y.1.toNat aT).db=y.2.1.2.1) then Lb true (decide (t∈l)) else q0 else q0 else Lb false (decide (t∈l)))
 dsimp only
 refine⟨⟨rfl,by omega,by omega,fun j hj=>by omega⟩,?_⟩
 rintro⟨i,⟨a1,a2,⟨⟩⟩,⟨⟩⟩ ⟨hb,h1,h2,hR⟩
 cases hb
 simp only
 have next:¬l.getD i.toNat aT=t->∀j:Nat,(j:Int)<i+1->¬l.getD j aT=t:=fun h j hj=>by
  by_cases RN:(j:Int)<i
  ·exact hR j RN
  ·rw[show j=i.toNat by omega];exact h
 refine aE ?_ ?_<;>intro hc
 ·have hi:i.toNat<l.length:=by omega
  rw[wi (n:=i+1)]
  refine⟨h1,hi,aE (fun g=>⟨h1,hi,aE (fun g'=>lQ ?_) (fun g'=>⟨⟨rfl,by omega,by omega,next fun e=>g' (by rw[e])⟩,by simp only[xQ];omega⟩)⟩) (fun g=>⟨⟨rfl,by omega,by omega,next fun e=>g (by rw[e])⟩,by simp only[xQ];omega⟩)⟩
  rw[<-(abj _ _).2 ⟨g,g'⟩];exact getDM aT hi
 ·refine ju fun hm=> ?_
  obtain⟨j,hj,e⟩:=zG hm
  refine hR j (by omega) ?_
  rw[gh,gr hj];exact e
def af2:=bE (α:=(List au)×(List au)) (qC (qL .bO) (q1 (qL .bO))) [.ro,.ro] (fun _=>[]) (fun(a,b)=>⟨[dO (m_ a b)],[],[]⟩)
def Hy(a:List au)(b:List au):Int×Unit->Prop:=fun(i,_)=>a.length=b.length/\0<=i/\i<=a.length/\∀j:Nat,(j:Int)<i->(decide (a.getD j aT∈b)&&decide (b.getD j aT∈a))=true
def G'(a:List au)(b:List au):Int×Unit->Nat:=fun(i,_)=>a.length-i.toNat
def asp:AX af2:=fun(a,b)=>bq [(4,az [iI 5] (fun _=>Hy a b) (G' a b))]
def arn:HH:=hF af2 func47 [aj3] asp fun x hp hb=>by
 obtain⟨a,b⟩:=x
 have cJ:L9 a.length:=eD (hb _ m0)
 have nj:L9 b.length:=eD (hb _ m1)
 clear hp hb
 apply vE (let q0:=Lb false (m_ a b);bif (a.length:Int) !=(b.length:Int) then q0 else Hy a b (0,())/\∀(y:Int×PUnit),let q1:=(wrap i64 (y.1+1),());Hy a b y->bif decide (y.1<(a.length:Int)) then 0<=y.1/\y.1.toNat<a.length/\bif !decide (a.getD y.1.toNat aT∈b) then q0 else 0<=y.1/\y.1.toNat<b.length/\bif !decide (b.getD y.1.toNat aT∈a) then q0 else Hy a b q1/\G' a b q1<G' a b y else Lb true (m_ a b))
 dsimp only
 refine k_ (fun g=>aQ (by unfold m_;rw[decide_eq_false g,mD])) (fun g1=>⟨⟨by omega,by omega,by omega,fun j hj=>by omega⟩,?_⟩)
 rintro⟨i,⟨⟩⟩ ⟨h3,h1,h2,hR⟩
 simp only
 refine aE ?_ ?_<;>intro hc
 ·have hi:i.toNat<a.length:=by omega
  have no:(decide (a.getD i.toNat aT∈b)&&decide (b.getD i.toNat aT∈a))=false->Lf [DV.one (Cell.lit (Value.bool false))] [DV.one (Cell.lit (Value.bool (m_ a b)))]:=fun h=>aQ (by unfold m_;rw[cE hi h,qq])
  rw[wi (n:=i+1)]
  refine⟨h1,hi,bT (fun g=>no (by rw[g,mD])) (fun g=>⟨h1,by omega,bT (fun g'=>no (by rw[g',qq])) (fun g'=> ?_)⟩)⟩
  exact⟨⟨h3,by omega,by omega,cu h1 (p:=fun j=>decide (a.getD j aT∈b)&&decide (b.getD j aT∈a)) hR (by show(_&&_)=true;rw[g,g'];rfl)⟩,by simp only[G'];omega⟩
 ·refine jN ?_
  unfold m_
  rw[decide_eq_true g1,cR fun j hj=>hR j (by omega)];rfl
def qK(d:bY)(s:ap):df:=uV d (bg d) s s.aa.length
def D2(m x:df)(i:Nat):Bool:=decide ((m.ab.getD i cS).L=(x.ab.getD i cS).L)
def uc(m x:df)(i k:Nat):Bool:=m_ ((m.af.getD i bt).ao.getD k aB).bi ((x.af.getD i bt).ao.getD k aB).bi
def Zq(m x:df)(i:Nat):Bool:=allI (m.af.getD i bt).ao.length (uc m x i)
def wy(n:dE)(m x:df):Bool:=ke n m&&allI m.ab.length (D2 m x)&&allI m.af.length (Zq m x)
def jy(d:bY)(m:df)(s:ap):Bool:=gJ d&&eB s&&wy (bg d) m (qK d s)
theorem VC{d:bY}{s:ap}(hd:gJ d=true)(hs:eB s=true)(hz:aj s.aa<=4294967295)(hsd:bo d<=4294967295):zN d (abo s s.aa.length) s.aa.length (qK d s)/\uW d (bg d) s s.aa.length=qK d s:=by
 obtain⟨⟨h1,h2⟩,_⟩:=AA hd hs hz hsd s.aa.length (og _)
 exact⟨by unfold qK;rw[<-h1];exact h2,h1⟩
theorem CH{d:bY}{m x:df}{B:Int}{N:Nat}(hd:gJ d=true)(h:ke (bg d) m=true)(hx:zN d B N x):m.ab.length=x.ab.length/\m.af.length=x.af.length/\m.af.length=d.af.length/\d.af.length<=12/\m.ab.length=(bg d).ab.length/\
  ∀i,i<m.af.length->(m.af.getD i bt).ao.length=(x.af.getD i bt).ao.length/\(m.af.getD i bt).ao.length<=3:=by
 obtain⟨x1,x2,_,x4⟩:=hx
 obtain⟨nl,nf⟩:=ua d
 simp only[ke,fY,decide_eq_true_eq] at h
 obtain⟨⟨h1,h2⟩,h3⟩:=h
 have wo:=hd
 simp only[gJ,fY,decide_eq_true_eq] at wo
 refine⟨by omega,by omega,by omega,wo.1.2.2,by omega,fun i hi=> ?_⟩
 have hs:=ew.1 h3 i hi
 simp only[te,fY,decide_eq_true_eq] at hs
 have h5:=qM (x4 i (by omega))
 have h6:=(nf i (by omega)).1.1
 have h7:=(vu (F4 hd (i:=i) (by omega))).2.2.1
 have h8:=hs.1
 omega
def ahd:=bE (α:=bY×df×ap) (qC (qA .jc) (qC (qA .jU) (q1 (qA .dW)))) [.ro,.ro,.ro] (fun(d,m,s)=>[bo d<=4294967295,aj s.aa<=4294967295]) (fun(d,m,s)=>⟨[dO (jy d m s)],[],[]⟩)
def HN(d:bY)(m:df)(s:ap):Int×T3×T3×Unit->Prop:=fun(i,b,x,_)=>b=(m.ab,m.af,())/\x=((qK d s).ab,(qK d s).af,())/\ke (bg d) m=true/\0<=i/\i<=m.ab.length/\∀j:Nat,(j:Int)<i->D2 m (qK d s) j=true
def Hk(d:bY)(m:df)(s:ap):Int×T3×T3×Unit->Nat:=fun(i,b,x,_)=>m.ab.length-i.toNat
def Ch(d:bY)(m:df)(s:ap):Int×T3×T3×Unit->Prop:=fun(i,b,x,_)=>b=(m.ab,m.af,())/\x=((qK d s).ab,(qK d s).af,())/\ke (bg d) m=true/\allI m.ab.length (D2 m (qK d s))=true/\0<=i/\i<=m.af.length/\∀j:Nat,(j:Int)<i->Zq m (qK d s) j=true
def Bp(d:bY)(m:df)(s:ap):Int×T3×T3×Unit->Nat:=fun(i,b,x,_)=>m.af.length-i.toNat
def Cg(d:bY)(m:df)(s:ap):Int×Int×T3×T3×Unit->Int×Int×T3×T3×Unit->Prop:=fun(i0,k0,b0,x0,_) (i,k,b,x,_)=>i=i0/\b=b0/\x=x0/\0<=k/\k<=(m.af.getD i0.toNat bt).ao.length/\∀j:Nat,(j:Int)<k->uc m (qK d s) i0.toNat j=true
def Bo(d:bY)(m:df)(s:ap):Int×Int×T3×T3×Unit->Nat:=fun(i,k,b,x,_)=>(m.af.getD i.toNat bt).ao.length-k.toNat
def asK:AX ahd:=fun(d,m,s)=>bq [(8,az [iI 9,.box 4 (4,1024) [.shr .cD,.shr .di],.box 8 (8,1024) [.own .cD true,.own .di true]] (fun _=>HN d m s) (Hk d m s)),(13,az [iI 10,.box 4 (4,1024) [.shr .cD,.shr .di],.box 8 (8,1024) [.own .cD true,.own .di true]] (fun _=>Ch d m s) (Bp d m s)),(16,az [iI 10,iI 11,.box 4 (4,1024) [.shr .cD,.shr .di],.box 8 (8,1024) [.own .cD true,.own .di true]] (Cg d m s) (Bo d m s))]
def arP:HH:=hF ahd func16 [ahM,ahL,arq,arp,aro,ack,arn] asK fun x hp hb=>by
 obtain⟨d,m,s⟩:=x
 have aG:=gO (x:=d) (hb _ m0)
 have fj:=aG.1
 have ez:=aG.2
 have cr:=p6 (x:=m) (hb _ m1)
 have nU:=cr.1
 have pb:=cr.2
 have eR:=eG (x:=s) (hb _ m2)
 have bP:bo d<=4294967295:=hp _ m0
 have jv:aj s.aa<=4294967295:=hp _ m1
 clear hp hb
 apply vE (let q0:=List b7×List dR×PUnit;let q1:=Lb false (jy d m s);let q2:=uV d (bg d) s (s.aa.length);bo d<=4294967295/\bif !gJ d then q1 else bif !eB s then q1 else bo d<=4294967295/\(bg d).ab.length<=4294967295/\gf (bg d)/\s.aa.length<=4294967295/\(∀(i:Nat),i<s.aa.length->QB d (bg d) (uV d (bg d) s i) (jP s i) (Gq s i))/\gf (bg d)/\bif !ke (bg d) m then q1 else HN d m s (0,(m.ab,m.af,()),(q2.ab,q2.af,()),())/\∀(y:Int×q0×q0×PUnit),let x1:=y.2.1.1.length;let x0:=(↑x1:Int);HN d m s y->bif decide (y.1<x0) then 0<=y.1/\y.1.toNat<x1/\0<=y.1/\y.1.toNat<y.2.2.1.1.length/\y.1.toNat<y.2.2.1.1.length/\y.1.toNat<y.2.2.1.1.length/\bif !decide ((y.2.1.1.getD y.1.toNat cS).L=(y.2.2.1.1.getD y.1.toNat cS).L) then q1 else HN d m s (wrap i64 (y.1+1),y.2)/\Hk d m s (wrap i64 (y.1+1),y.2)<Hk d m s y else Ch d m s (0,y.2)/\∀(y:Int×q0×q0×PUnit),let x2:=(y.2.1.2.1.length:Int);let q3:=(y.1,0,y.2);Ch d m s y->bif decide (y.1<x2) then Cg d m s q3 q3/\∀(av:Int×Int×q0×q0×PUnit),let x3:=av.2.1.toNat;let x4:=(av.2.2.2.1.2.1.getD av.1.toNat bt).ao;let x7:=(av.2.2.1.2.1.getD av.1.toNat bt).ao;let x6:=x7.length;let x5:=(↑x6:Int);let q4:=(av.1,wrap i64 (av.2.1+1),av.2.2);let q5:=(wrap i64 (av.1+1),av.2.2);Cg d m s q3 av->0<=av.1/\av.1.toNat<av.2.2.1.2.1.length/\bif decide (av.2.1<x5) then 0<=av.1/\av.1.toNat<av.2.2.1.2.1.length/\0<=av.2.1/\x3<x6/\0<=av.1/\av.1.toNat<av.2.2.2.1.2.1.length/\av.1.toNat<av.2.2.2.1.2.1.length/\av.1.toNat<av.2.2.2.1.2.1.length/\0<=av.2.1/\x3<x4.length/\av.1.toNat<av.2.2.2.1.2.1.length/\x3<x4.length/\av.1.toNat<av.2.2.2.1.2.1.length/\x3<x4.length/\bif !m_ (x7.getD x3 aB).bi (x4.getD x3 aB).bi then q1 else Cg d m s q3 q4/\Bo d m s q4<Bo d m s av else Ch d m s q5/\Bp d m s q5<Bp d m s y else Lb true (jy d m s))
 dsimp only
 refine⟨bP,bT (fun a1=>aQ (by unfold jy;rw[a1];rfl)) (fun a1=>bT (fun a2=>aQ (by unfold jy;rw[a2,qq];rfl)) (fun a2=> ?_))⟩
 have IL:=Gh bP
 rw[C2 a1] at IL
 obtain⟨hx,_⟩:=VC a1 a2 jv bP
 have ox:=(AA a1 a2 jv bP s.aa.length (og _)).2
 have hil:s.aa.length<=aj s.aa:=by unfold aj;omega
 have hsm:jy d m s=wy (bg d) m (qK d s):=by unfold jy;rw[a1,a2];rfl
 rw[hsm]
 refine⟨bP,IL.1,IL.2,by omega,fun i hi=>(ox i hi).1,IL.2,bT (fun a3=>aQ (by unfold wy;rw[a3];rfl)) (fun a3=>⟨⟨rfl,rfl,a3,by omega,by omega,fun j hj=>by omega⟩,?_⟩)⟩
 obtain⟨z1,z2,z3,z4,z5,z6⟩:=CH a1 a3 hx
 have zT:m.ab.length<=4294967295:=by omega
 rintro⟨i,⟨b1,b2,⟨⟩⟩,⟨c1,c2,⟨⟩⟩,⟨⟩⟩ ⟨hb,hc,_,h1,h2,hR⟩
 cases hb
 cases hc
 simp only
 refine aE ?_ ?_<;>intro hk
 ·have hi:i.toNat<m.ab.length:=by omega
  rw[wi (n:=i+1)]
  refine⟨h1,hi,h1,by omega,by omega,by omega,bT (fun g=>aQ ?_) (fun g=>⟨⟨rfl,rfl,a3,by omega,by omega,cu h1 hR g⟩,by simp only[Hk];omega⟩)⟩
  unfold wy
  rw[cE hi (show D2 m (qK d s) i.toNat=false from g),qq,mD]
 ·have a4:allI m.ab.length (D2 m (qK d s))=true:=cR fun j hj=>hR j (by omega)
  refine⟨⟨rfl,rfl,a3,a4,by omega,by omega,fun j hj=>by omega⟩,?_⟩
  clear hR h1 h2 hk
  rintro⟨i,⟨b1,b2,⟨⟩⟩,⟨c1,c2,⟨⟩⟩,⟨⟩⟩ ⟨hb,hc,_,_,h1,h2,hR⟩
  cases hb
  cases hc
  simp only
  refine aE ?_ ?_<;>intro hk
  ·have hi:i.toNat<m.af.length:=by omega
   obtain⟨v1,v2⟩:=z6 i.toNat hi
   refine⟨⟨rfl,rfl,rfl,by omega,by omega,fun j hj=>by omega⟩,?_⟩
   rintro⟨i',k,⟨b1,b2,⟨⟩⟩,⟨c1,c2,⟨⟩⟩,⟨⟩⟩ ⟨w1,w2,w3,k1,k2,kR⟩
   replace w1:i'=i:=w1
   subst i'
   cases w2
   cases w3
   replace k2:k<=(m.af.getD i.toNat bt).ao.length:=k2
   replace kR:∀j:Nat,(j:Int)<k->uc m (qK d s) i.toNat j=true:=kR
   simp only
   refine⟨h1,hi,aE (fun eS=> ?_) (fun eS=> ?_)⟩
   ·have tG:k.toNat<(m.af.getD i.toNat bt).ao.length:=by omega
    rw[wi (n:=k+1)]
    have q1:i.toNat<(qK d s).af.length:=by omega
    have q2:k.toNat<((qK d s).af.getD i.toNat bt).ao.length:=by omega
    refine⟨h1,hi,k1,tG,h1,q1,q1,q1,k1,q2,q1,q2,q1,q2,bT (fun g=>aQ ?_) (fun g=>⟨⟨rfl,rfl,rfl,by omega,by omega,cu k1 kR g⟩,by simp only[Bo];omega⟩)⟩
    have hr:Zq m (qK d s) i.toNat=false:=cE tG (show uc m (qK d s) i.toNat k.toNat=false from g)
    unfold wy
    rw[cE hi hr,qq]
   ·rw[wi (n:=i+1)]
    exact⟨⟨rfl,rfl,a3,a4,by omega,by omega,cu h1 hR (cR fun j hj=>kR j (by omega))⟩,by simp only[Bp];omega⟩
  ·refine jN ?_
   unfold wy
   rw[a3,a4,cR fun j hj=>hR j (by omega)];rfl
def fo(x:au):DA UU:=⟨true,[.sl .int x.b9,.sl .int x.db]⟩
def dN(x:aq):DA UU:=⟨true,[.sl .bO x.bi]⟩
def gP(x:dR):DA UU:=⟨true,[.sl .cf x.ao]⟩
def gp(x:b7):DA UU:=⟨true,[.sl .int x.L]⟩
def WZ:=bE (α:=(List au)×(List au)×(List (DA UU)->Option Value)) (qC (qL .bO) (qC (qL .bO) (q1 qF))) [.ro,.ro,.ro] (fun(a,b,p)=>[∀j:Nat,j<a.length->j<b.length->p [fo (a.getD j aT),fo (b.getD j aT)]=some (.bool (aH (p [fo (a.getD j aT),fo (b.getD j aT)])))]) (fun(a,b,p)=>⟨[dO (decide ((a.length:Int)=b.length)&&allI a.length (fun j=>aH (p [fo (a.getD j aT),fo (b.getD j aT)])))],[],[]⟩)
def B_(a:List au)(b:List au)(p:(List (DA UU)->Option Value)):Int×Unit->Prop:=fun(i,_)=>0<=i/\i<=a.length/\a.length=b.length/\∀j:Nat,(j:Int)<i->aH (p [fo (a.getD j aT),fo (b.getD j aT)])=true
def Bg(a:List au)(b:List au)(p:(List (DA UU)->Option Value)):Int×Unit->Nat:=fun(i,_)=>a.length-i.toNat
def akS:AX WZ:=fun(a,b,p)=>bq [(4,az [iI 17] (fun _=>B_ a b p) (Bg a b p))]
def aiV:HH:=hF WZ func199 [] akS fun x hp hb=>by
 obtain⟨a,b,p⟩:=x
 have cJ:L9 a.length:=eD (hb _ m0)
 have nj:L9 b.length:=eD (hb _ m1)
 have bP:∀j:Nat,j<a.length->j<b.length->p [fo (a.getD j aT),fo (b.getD j aT)]=some (.bool (aH (p [fo (a.getD j aT),fo (b.getD j aT)]))):=hp _ m0
 clear hp hb
 apply vE (let x0:=(a.length:Int);let q0:=(b.length:Int);bif x0 !=q0 then Lb false (decide (x0=q0)&&allI (a.length) fun(j:Nat)=>aH (p [fo (a.getD j aT),fo (b.getD j aT)])) else B_ a b p (0,())/\∀(y:Int×PUnit),let x1:=aH (p [{agg:=true,cs:=[CL .int (a.getD y.1.toNat aT).b9,CL .int (a.getD y.1.toNat aT).db]:DA UU},{agg:=true,cs:=[CL .int (b.getD y.1.toNat aT).b9,CL .int (b.getD y.1.toNat aT).db]:DA UU}]);let q1:=(wrap i64 (y.1+1),());B_ a b p y->bif decide (y.1<x0) then 0<=y.1/\y.1.toNat<a.length/\0<=y.1/\y.1.toNat<b.length/\p [{agg:=true,cs:=[CL .int (a.getD y.1.toNat aT).b9,CL .int (a.getD y.1.toNat aT).db]:DA UU},{agg:=true,cs:=[CL .int (b.getD y.1.toNat aT).b9,CL .int (b.getD y.1.toNat aT).db]:DA UU}]=some (Value.bool x1)/\bif !x1 then Lb false (decide (x0=q0)&&allI (a.length) fun(j:Nat)=>aH (p [fo (a.getD j aT),fo (b.getD j aT)])) else B_ a b p q1/\Bg a b p q1<Bg a b p y else Lb true (decide (x0=q0)&&allI (a.length) fun(j:Nat)=>aH (p [fo (a.getD j aT),fo (b.getD j aT)])))
 dsimp only
 refine k_ (fun h=>aQ (by rw[decide_eq_false h,mD])) (fun h=>⟨⟨by omega,by omega,by omega,fun j hj=>by omega⟩,?_⟩)
 rintro⟨i,⟨⟩⟩ ⟨h1,h2,h3,hR⟩
 simp only
 refine aE ?_ ?_<;>intro hc
 ·rw[wi]
  refine⟨by omega,by omega,by omega,by omega,bP i.toNat (by omega) (by omega),bT (fun g=>aQ ?_) (fun g=>⟨⟨by omega,by omega,h3,cu (p:=fun j=>aH (p [fo (a.getD j aT),fo (b.getD j aT)])) h1 hR g⟩,by simp only[Bg];omega⟩)⟩
  rw[cE (p:=fun j=>aH (p [fo (a.getD j aT),fo (b.getD j aT)])) (show i.toNat<a.length by omega) g,qq]
 ·refine jN ?_
  rw[decide_eq_true h,cR fun j hj=>hR j (by omega)];rfl
def Xp:=bE (α:=(List aq)×(List aq)×(List (DA UU)->Option Value)) (qC (qL .cf) (qC (qL .cf) (q1 qF))) [.ro,.ro,.ro] (fun(a,b,p)=>[∀j:Nat,j<a.length->j<b.length->p [dN (a.getD j aB),dN (b.getD j aB)]=some (.bool (aH (p [dN (a.getD j aB),dN (b.getD j aB)])))]) (fun(a,b,p)=>⟨[dO (decide ((a.length:Int)=b.length)&&allI a.length (fun j=>aH (p [dN (a.getD j aB),dN (b.getD j aB)])))],[],[]⟩)
def Cp(a:List aq)(b:List aq)(p:(List (DA UU)->Option Value)):Int×Unit->Prop:=fun(i,_)=>0<=i/\i<=a.length/\a.length=b.length/\∀j:Nat,(j:Int)<i->aH (p [dN (a.getD j aB),dN (b.getD j aB)])=true
def Bx(a:List aq)(b:List aq)(p:(List (DA UU)->Option Value)):Int×Unit->Nat:=fun(i,_)=>a.length-i.toNat
def ali:AX Xp:=fun(a,b,p)=>bq [(4,az [iI 17] (fun _=>Cp a b p) (Bx a b p))]
def ajG:HH:=hF Xp func133 [] ali fun x hp hb=>by
 obtain⟨a,b,p⟩:=x
 have cJ:L9 a.length:=eD (hb _ m0)
 have nj:L9 b.length:=eD (hb _ m1)
 have bP:∀j:Nat,j<a.length->j<b.length->p [dN (a.getD j aB),dN (b.getD j aB)]=some (.bool (aH (p [dN (a.getD j aB),dN (b.getD j aB)]))):=hp _ m0
 clear hp hb
 apply vE (let x0:=(a.length:Int);let q0:=(b.length:Int);bif x0 !=q0 then Lb false (decide (x0=q0)&&allI (a.length) fun(j:Nat)=>aH (p [dN (a.getD j aB),dN (b.getD j aB)])) else Cp a b p (0,())/\∀(y:Int×PUnit),let x1:=aH (p [{agg:=true,cs:=[CL .bO (a.getD y.1.toNat aB).bi]:DA UU},{agg:=true,cs:=[CL .bO (b.getD y.1.toNat aB).bi]:DA UU}]);let q1:=(wrap i64 (y.1+1),());Cp a b p y->bif decide (y.1<x0) then 0<=y.1/\y.1.toNat<a.length/\0<=y.1/\y.1.toNat<b.length/\p [{agg:=true,cs:=[CL .bO (a.getD y.1.toNat aB).bi]:DA UU},{agg:=true,cs:=[CL .bO (b.getD y.1.toNat aB).bi]:DA UU}]=some (Value.bool x1)/\bif !x1 then Lb false (decide (x0=q0)&&allI (a.length) fun(j:Nat)=>aH (p [dN (a.getD j aB),dN (b.getD j aB)])) else Cp a b p q1/\Bx a b p q1<Bx a b p y else Lb true (decide (x0=q0)&&allI (a.length) fun(j:Nat)=>aH (p [dN (a.getD j aB),dN (b.getD j aB)])))
 dsimp only
 refine k_ (fun h=>aQ (by rw[decide_eq_false h,mD])) (fun h=>⟨⟨by omega,by omega,by omega,fun j hj=>by omega⟩,?_⟩)
 rintro⟨i,⟨⟩⟩ ⟨h1,h2,h3,hR⟩
 simp only
 refine aE ?_ ?_<;>intro hc
 ·rw[wi]
  refine⟨by omega,by omega,by omega,by omega,bP i.toNat (by omega) (by omega),bT (fun g=>aQ ?_) (fun g=>⟨⟨by omega,by omega,h3,cu (p:=fun j=>aH (p [dN (a.getD j aB),dN (b.getD j aB)])) h1 hR g⟩,by simp only[Bx];omega⟩)⟩
  rw[cE (p:=fun j=>aH (p [dN (a.getD j aB),dN (b.getD j aB)])) (show i.toNat<a.length by omega) g,qq]
 ·refine jN ?_
  rw[decide_eq_true h,cR fun j hj=>hR j (by omega)];rfl
def Xq:=bE (α:=(List dR)×(List dR)×(List (DA UU)->Option Value)) (qC (qL .di) (qC (qL .di) (q1 qF))) [.ro,.ro,.ro] (fun(a,b,p)=>[∀j:Nat,j<a.length->j<b.length->p [gP (a.getD j bt),gP (b.getD j bt)]=some (.bool (aH (p [gP (a.getD j bt),gP (b.getD j bt)])))]) (fun(a,b,p)=>⟨[dO (decide ((a.length:Int)=b.length)&&allI a.length (fun j=>aH (p [gP (a.getD j bt),gP (b.getD j bt)])))],[],[]⟩)
def Cq(a:List dR)(b:List dR)(p:(List (DA UU)->Option Value)):Int×Unit->Prop:=fun(i,_)=>0<=i/\i<=a.length/\a.length=b.length/\∀j:Nat,(j:Int)<i->aH (p [gP (a.getD j bt),gP (b.getD j bt)])=true
def By(a:List dR)(b:List dR)(p:(List (DA UU)->Option Value)):Int×Unit->Nat:=fun(i,_)=>a.length-i.toNat
def alj:AX Xq:=fun(a,b,p)=>bq [(4,az [iI 17] (fun _=>Cq a b p) (By a b p))]
def ajI:HH:=hF Xq func131 [] alj fun x hp hb=>by
 obtain⟨a,b,p⟩:=x
 have cJ:L9 a.length:=eD (hb _ m0)
 have nj:L9 b.length:=eD (hb _ m1)
 have bP:∀j:Nat,j<a.length->j<b.length->p [gP (a.getD j bt),gP (b.getD j bt)]=some (.bool (aH (p [gP (a.getD j bt),gP (b.getD j bt)]))):=hp _ m0
 clear hp hb
 apply vE (let x0:=(a.length:Int);let q0:=(b.length:Int);bif x0 !=q0 then Lb false (decide (x0=q0)&&allI (a.length) fun(j:Nat)=>aH (p [gP (a.getD j bt),gP (b.getD j bt)])) else Cq a b p (0,())/\∀(y:Int×PUnit),let x1:=aH (p [{agg:=true,cs:=[CL .cf (a.getD y.1.toNat bt).ao]:DA UU},{agg:=true,cs:=[CL .cf (b.getD y.1.toNat bt).ao]:DA UU}]);let q1:=(wrap i64 (y.1+1),());Cq a b p y->bif decide (y.1<x0) then 0<=y.1/\y.1.toNat<a.length/\0<=y.1/\y.1.toNat<b.length/\p [{agg:=true,cs:=[CL .cf (a.getD y.1.toNat bt).ao]:DA UU},{agg:=true,cs:=[CL .cf (b.getD y.1.toNat bt).ao]:DA UU}]=some (Value.bool x1)/\bif !x1 then Lb false (decide (x0=q0)&&allI (a.length) fun(j:Nat)=>aH (p [gP (a.getD j bt),gP (b.getD j bt)])) else Cq a b p q1/\By a b p q1<By a b p y else Lb true (decide (x0=q0)&&allI (a.length) fun(j:Nat)=>aH (p [gP (a.getD j bt),gP (b.getD j bt)])))
 dsimp only
 refine k_ (fun h=>aQ (by rw[decide_eq_false h,mD])) (fun h=>⟨⟨by omega,by omega,by omega,fun j hj=>by omega⟩,?_⟩)
 rintro⟨i,⟨⟩⟩ ⟨h1,h2,h3,hR⟩
 simp only
 refine aE ?_ ?_<;>intro hc
 ·rw[wi]
  refine⟨by omega,by omega,by omega,by omega,bP i.toNat (by omega) (by omega),bT (fun g=>aQ ?_) (fun g=>⟨⟨by omega,by omega,h3,cu (p:=fun j=>aH (p [gP (a.getD j bt),gP (b.getD j bt)])) h1 hR g⟩,by simp only[By];omega⟩)⟩
  rw[cE (p:=fun j=>aH (p [gP (a.getD j bt),gP (b.getD j bt)])) (show i.toNat<a.length by omega) g,qq]
 ·refine jN ?_
  rw[decide_eq_true h,cR fun j hj=>hR j (by omega)];rfl
def Xs:=bE (α:=(List b7)×(List b7)×(List (DA UU)->Option Value)) (qC (qL .cD) (qC (qL .cD) (q1 qF))) [.ro,.ro,.ro] (fun(a,b,p)=>[∀j:Nat,j<a.length->j<b.length->p [gp (a.getD j cS),gp (b.getD j cS)]=some (.bool (aH (p [gp (a.getD j cS),gp (b.getD j cS)])))]) (fun(a,b,p)=>⟨[dO (decide ((a.length:Int)=b.length)&&allI a.length (fun j=>aH (p [gp (a.getD j cS),gp (b.getD j cS)])))],[],[]⟩)
def Cr(a:List b7)(b:List b7)(p:(List (DA UU)->Option Value)):Int×Unit->Prop:=fun(i,_)=>0<=i/\i<=a.length/\a.length=b.length/\∀j:Nat,(j:Int)<i->aH (p [gp (a.getD j cS),gp (b.getD j cS)])=true
def BB(a:List b7)(b:List b7)(p:(List (DA UU)->Option Value)):Int×Unit->Nat:=fun(i,_)=>a.length-i.toNat
def alm:AX Xs:=fun(a,b,p)=>bq [(4,az [iI 17] (fun _=>Cr a b p) (BB a b p))]
def ajK:HH:=hF Xs func128 [] alm fun x hp hb=>by
 obtain⟨a,b,p⟩:=x
 have cJ:L9 a.length:=eD (hb _ m0)
 have nj:L9 b.length:=eD (hb _ m1)
 have bP:∀j:Nat,j<a.length->j<b.length->p [gp (a.getD j cS),gp (b.getD j cS)]=some (.bool (aH (p [gp (a.getD j cS),gp (b.getD j cS)]))):=hp _ m0
 clear hp hb
 apply vE (let x0:=(a.length:Int);let q0:=(b.length:Int);bif x0 !=q0 then Lb false (decide (x0=q0)&&allI (a.length) fun(j:Nat)=>aH (p [gp (a.getD j cS),gp (b.getD j cS)])) else Cr a b p (0,())/\∀(y:Int×PUnit),let x1:=aH (p [{agg:=true,cs:=[CL .int (a.getD y.1.toNat cS).L]:DA UU},{agg:=true,cs:=[CL .int (b.getD y.1.toNat cS).L]:DA UU}]);let q1:=(wrap i64 (y.1+1),());Cr a b p y->bif decide (y.1<x0) then 0<=y.1/\y.1.toNat<a.length/\0<=y.1/\y.1.toNat<b.length/\p [{agg:=true,cs:=[CL .int (a.getD y.1.toNat cS).L]:DA UU},{agg:=true,cs:=[CL .int (b.getD y.1.toNat cS).L]:DA UU}]=some (Value.bool x1)/\bif !x1 then Lb false (decide (x0=q0)&&allI (a.length) fun(j:Nat)=>aH (p [gp (a.getD j cS),gp (b.getD j cS)])) else Cr a b p q1/\BB a b p q1<BB a b p y else Lb true (decide (x0=q0)&&allI (a.length) fun(j:Nat)=>aH (p [gp (a.getD j cS),gp (b.getD j cS)])))
 dsimp only
 refine k_ (fun h=>aQ (by rw[decide_eq_false h,mD])) (fun h=>⟨⟨by omega,by omega,by omega,fun j hj=>by omega⟩,?_⟩)
 rintro⟨i,⟨⟩⟩ ⟨h1,h2,h3,hR⟩
 simp only
 refine aE ?_ ?_<;>intro hc
 ·rw[wi]
  refine⟨by omega,by omega,by omega,by omega,bP i.toNat (by omega) (by omega),bT (fun g=>aQ ?_) (fun g=>⟨⟨by omega,by omega,h3,cu (p:=fun j=>aH (p [gp (a.getD j cS),gp (b.getD j cS)])) h1 hR g⟩,by simp only[BB];omega⟩)⟩
  rw[cE (p:=fun j=>aH (p [gp (a.getD j cS),gp (b.getD j cS)])) (show i.toNat<a.length by omega) g,qq]
 ·refine jN ?_
  rw[decide_eq_true h,cR fun j hj=>hR j (by omega)];rfl
theorem Jm(a:au):eU a a=0:=by
 have:=fS a a
 omega
def rv(a b:aq):Bool:=decide ((a.bi.length:Int)=b.bi.length)&&decide (cC a.bi=cC b.bi)
def vt(a b:dR):Bool:=decide ((a.ao.length:Int)=b.ao.length)&&allI a.ao.length (fun j=>rv (a.ao.getD j aB) (b.ao.getD j aB))
def ru(a b:df):Bool:=(decide ((a.ab.length:Int)=b.ab.length)&&allI a.ab.length (fun j=>decide ((a.ab.getD j cS).L=(b.ab.getD j cS).L)))&&(decide ((a.af.length:Int)=b.af.length)&&allI a.af.length (fun j=>vt (a.af.getD j bt) (b.af.getD j bt)))
theorem pL(l:List au):(cC l).length=l.length:=(l8 l).length_eq
theorem Un{a b:List au}(h:a.length=b.length):allI a.length (fun j=>decide (a.getD j aT=b.getD j aT))=decide (a=b):=by
 rw[<-Bool.coe_iff_coe,decide_eq_true_iff,ew]
 constructor
 ·intro h2;exact DB aT h fun k hk=>yT (h2 k hk)
 ·rintro rfl k _;simp
def vp:kq UU where
 α:=au×au
 md:=[.ro,.ro]
 of:=oC (oA .bO) (o1 (oA .bO))
 ds:=fun x=>[dA .bO x.1,dA .bO x.2]
 pre:=fun _=>[]
 ot:=fun(a,b)=>⟨[dO (decide (a=b))],[],[]⟩
 law:=lC (lA .bO) (l1 (lA .bO))
def aiU:HH:=hF vp func200 [aiW] a0 fun x hp hb=>by
 obtain⟨a,b⟩:=x
 have aG:=p5 (x:=a) (hb _ m0)
 have pe:=aG.1
 have ue:=aG.2
 have cr:=p5 (x:=b) (hb _ m1)
 have De:=cr.1
 have Fa:=cr.2
 clear hp hb
 apply vE (Lb (eU a b==0) (decide (a=b)))
 refine cx ?_
 rw[<-Bool.coe_iff_coe,decide_eq_true_iff,beq_iff_eq]
 exact⟨lE,fun e=>by rw[e];exact Jm b⟩
def FM:kq UU where
 α:=aq×aq
 md:=[.ro,.ro]
 of:=oC (oA .cf) (o1 (oA .cf))
 ds:=fun x=>[dA .cf x.1,dA .cf x.2]
 pre:=fun(a,b)=>[a.bi.length<=4294967296,b.bi.length<=4294967296]
 ot:=fun(a,b)=>⟨[dO (rv a b)],[],[]⟩
 law:=lC (lA .cf) (l1 (lA .cf))
def ajF:HH:=hF FM func134 [aiV,aiU] a0 fun x hp hb=>by
 obtain⟨a,b⟩:=x
 have zg:=uO (x:=a) (hb _ m0)
 have NJ:=uO (x:=b) (hb _ m1)
 have bP:a.bi.length<=4294967296:=hp _ m0
 have jv:b.bi.length<=4294967296:=hp _ m1
 clear hp hb
 apply vE (let x0:=({τ:=Cd.bO,g:=(198:FuncId),S:=cC:Rh UU}.S a.bi).length;let x1:=({τ:=Cd.bO,g:=(198:FuncId),S:=cC:Rh UU}.S b.bi).length;let q0:={τ:=Cd.bO,g:=(198:FuncId),S:=cC:Rh UU}.S a.bi;let q1:={τ:=Cd.bO,g:=(198:FuncId),S:=cC:Rh UU}.S b.bi;bif (a.bi.length:Int) !=(b.bi.length:Int) then Lb false (rv a b) else L4 a.bi.length/\L4 b.bi.length/\L4 a.bi.length/\L4 b.bi.length/\(∀(j:Nat),j<x0->j<x1->dK vp [] [fo (q0.getD j aT),fo (q1.getD j aT)]=some (Value.bool (aH (dK vp [] [fo (q0.getD j aT),fo (q1.getD j aT)]))))/\Lb (decide ((↑x0:Int)=(↑x1:Int))&&allI x0 fun(j:Nat)=>aH (dK vp [] [fo (q0.getD j aT),fo (q1.getD j aT)])) (rv a b))
 dsimp only
 have hc:∀x y:au,dK vp [] [fo x,fo y]=some (.bool (decide (x=y))):=fun x y=>nY (x:=(x,y)) rfl rfl rfl rfl (by simp[vp])
 refine k_ (fun h=>aQ (by unfold rv;rw[decide_eq_false h,mD])) (fun h=>⟨bP,jv,bP,jv,fun j _ _=> ?_,cx ?_⟩)
 ·show dK vp [] [fo ((cC a.bi).getD j aT),fo ((cC b.bi).getD j aT)]=some (.bool (aH (dK vp [] [fo ((cC a.bi).getD j aT),fo ((cC b.bi).getD j aT)])))
  rw[hc];rfl
 ·have e:(allI (cC a.bi).length fun j=>aH (dK vp [] [fo ((cC a.bi).getD j aT),fo ((cC b.bi).getD j aT)]))=decide (cC a.bi=cC b.bi):=
   (sb fun j _=>by rw[hc];rfl).trans (Un (by rw[pL,pL];omega))
  show(decide (((cC a.bi).length:Int)=((cC b.bi).length:Int))&&(allI (cC a.bi).length fun j=>aH (dK vp [] [fo ((cC a.bi).getD j aT),fo ((cC b.bi).getD j aT)])))=rv a b
  rw[e,pL,pL];rfl
def D7:kq UU where
 α:=b7×b7
 md:=[.ro,.ro]
 of:=oC (oA .cD) (o1 (oA .cD))
 ds:=fun x=>[dA .cD x.1,dA .cD x.2]
 pre:=fun _=>[]
 ot:=fun(x,y)=>⟨[dO (decide (x.L=y.L))],[],[]⟩
 law:=lC (lA .cD) (l1 (lA .cD))
def ajJ:HH:=hF D7 func129 [XU] a0 fun x hp hb=>by
 obtain⟨x,y⟩:=x
 have app:=AP (x:=x) (hb _ m0)
 have apo:=AP (x:=y) (hb _ m1)
 clear hp hb
 apply vE (Lb (decide (x.L=y.L)) (decide (x.L=y.L)))
 exact cx rfl
def FN:kq UU where
 α:=dR×dR
 md:=[.ro,.ro]
 of:=oC (oA .di) (o1 (oA .di))
 ds:=fun x=>[dA .di x.1,dA .di x.2]
 pre:=fun(x,y)=>[∀v∈x.ao,v.bi.length<=4294967296,∀v∈y.ao,v.bi.length<=4294967296]
 ot:=fun(x,y)=>⟨[dO (vt x y)],[],[]⟩
 law:=lC (lA .di) (l1 (lA .di))
def ajH:HH:=hF FN func132 [ajG,ajF] a0 fun x hp hb=>by
 obtain⟨x,y⟩:=x
 have VT:=AO (x:=x) (hb _ m0)
 have VS:=AO (x:=y) (hb _ m1)
 have bP:∀v∈x.ao,v.bi.length<=4294967296:=hp _ m0
 have jv:∀v∈y.ao,v.bi.length<=4294967296:=hp _ m1
 clear hp hb
 apply vE ((∀(j:Nat),j<x.ao.length->j<y.ao.length->dK FM [] [dN (x.ao.getD j aB),dN (y.ao.getD j aB)]=some (Value.bool (aH (dK FM [] [dN (x.ao.getD j aB),dN (y.ao.getD j aB)]))))/\Lb (decide ((x.ao.length:Int)=(y.ao.length:Int))&&allI (x.ao.length) fun(j:Nat)=>aH (dK FM [] [dN (x.ao.getD j aB),dN (y.ao.getD j aB)])) (vt x y))
 have hc:∀x y:aq,x.bi.length<=4294967296->y.bi.length<=4294967296->dK FM [] [dN x,dN y]=some (.bool (rv x y)):=fun x y h1 h2=>nY (x:=(x,y)) rfl rfl rfl rfl (by
  intro p hp
  simp only[FM,h_,rh,or_false] at hp
  rcases hp with rfl|rfl
  ·exact h1
  ·exact h2)
 refine⟨fun j h1 h2=> ?_,cx ?_⟩
 ·rw[hc _ _ (bP _ (getDM aB h1)) (jv _ (getDM aB h2))];rfl
 ·unfold vt
  by_cases hl:(x.ao.length:Int)=y.ao.length
  ·congr 1
   exact sb fun j hj=>by rw[hc _ _ (bP _ (getDM aB hj)) (jv _ (getDM aB (by omega)))];rfl
  ·rw[decide_eq_false hl,mD,mD]
def aqj:=bE (α:=df×df) (qC (qA .jU) (q1 (qA .jU))) [.ro,.ro] (fun(a,b)=>[∀r∈a.af,∀v∈r.ao,L4 v.bi.length,∀r∈b.af,∀v∈r.ao,L4 v.bi.length]) (fun(a,b)=>⟨[dO (ru a b)],[],[]⟩)
def aq7:HH:=hF aqj func67 [ajK,ajJ,ajI,ajH] a0 fun x hp hb=>by
 obtain⟨a,b⟩:=x
 have aG:=p6 (x:=a) (hb _ m0)
 have tF:=aG.1
 have nk:=aG.2
 have cr:=p6 (x:=b) (hb _ m1)
 have IT:=cr.1
 have Dd:=cr.2
 have bP:∀r∈a.af,∀v∈r.ao,v.bi.length<=4294967296:=hp _ m0
 have jv:∀r∈b.af,∀v∈r.ao,v.bi.length<=4294967296:=hp _ m1
 clear hp hb
 apply vE ((∀(j:Nat),j<a.ab.length->j<b.ab.length->dK D7 [] [gp (a.ab.getD j cS),gp (b.ab.getD j cS)]=some (Value.bool (aH (dK D7 [] [gp (a.ab.getD j cS),gp (b.ab.getD j cS)]))))/\bif decide ((a.ab.length:Int)=(b.ab.length:Int))&&allI (a.ab.length) fun(j:Nat)=>aH (dK D7 [] [gp (a.ab.getD j cS),gp (b.ab.getD j cS)]) then(∀(j:Nat),j<a.af.length->j<b.af.length->dK FN [] [gP (a.af.getD j bt),gP (b.af.getD j bt)]=some (Value.bool (aH (dK FN [] [gP (a.af.getD j bt),gP (b.af.getD j bt)]))))/\Lb (decide ((a.af.length:Int)=(b.af.length:Int))&&allI (a.af.length) fun(j:Nat)=>aH (dK FN [] [gP (a.af.getD j bt),gP (b.af.getD j bt)])) (ru a b) else Lb false (ru a b))
 have yL:∀x y:b7,dK D7 [] [gp x,gp y]=some (.bool (decide (x.L=y.L))):=fun x y=>nY (x:=(x,y)) rfl rfl rfl rfl (by simp[D7])
 have hc:∀x y:dR,(∀v∈x.ao,v.bi.length<=4294967296)->(∀v∈y.ao,v.bi.length<=4294967296)->dK FN [] [gP x,gP y]=some (.bool (vt x y)):=fun x y h1 h2=>nY (x:=(x,y)) rfl rfl rfl rfl (by
  intro p hp
  simp only[FN,h_,rh,or_false] at hp
  rcases hp with rfl|rfl
  ·exact h1
  ·exact h2)
 have e1:(allI a.ab.length fun j=>aH (dK D7 [] [gp (a.ab.getD j cS),gp (b.ab.getD j cS)]))=allI a.ab.length (fun j=>decide ((a.ab.getD j cS).L=(b.ab.getD j cS).L)):=sb fun j _=>by rw[yL];rfl
 rw[e1]
 refine⟨fun j _ _=>by rw[yL];rfl,ae (fun h=>⟨fun j h1 h2=> ?_,cx ?_⟩) (fun h=>aQ (by unfold ru;rw[h,mD]))⟩
 ·rw[hc _ _ (bP _ (getDM bt h1)) (jv _ (getDM bt h2))];rfl
 ·unfold ru
  rw[h,Av]
  by_cases hl:(a.af.length:Int)=b.af.length
  ·congr 1
   exact sb fun j hj=>by rw[hc _ _ (bP _ (getDM bt hj)) (jv _ (getDM bt (by omega)))];rfl
  ·rw[decide_eq_false hl,mD,mD]
theorem LH{α:Type}:∀{b a:List α},b.Nodup->(∀x∈b,x∈a)->a.length=b.length->a.Perm b
 |[],a,_,_,h=>by
  have:a=[]:=yG h
  rw[this]
 |x::b,a,hn,hs,h=>by
  rw[pH] at hn
  obtain⟨s,t,rfl⟩:=List.append_of_mem (hs x cH)
  refine List.perm_middle.trans (List.Perm.cons x (LH hn.2 (fun y hy=> ?_) (by simp at h⊢;omega)))
  have:=hs y (aJ _ hy)
  rw[gA,h_] at this
  rcases this with g|g|g
  ·exact oE _ g
  ·exact absurd (g▸hy) hn.1
  ·exact pA _ g
theorem wF{α β:Type}{f:α->β}:∀{l:List α},(l.map f).Nodup->l.Nodup
 |[],_=>MH
 |x::l,h=>by
  rw[rl,pH] at h
  exact pH.2 ⟨fun hx=>h.1 (jX.2 ⟨x,hx,rfl⟩),wF h.2⟩
theorem CF(b:List au):(cC b).Pairwise fun x y=>¬eU y x<0:=by
 have:=List.pairwise_mergeSort (le:=fun x y:au=> !decide (eU y x<0)) (fun x y z h1 h2=> ?_) (fun x y=> ?_) b
 ·exact this.imp fun{x y} h=>by simpa using h
 ·simp only[sS,decide_eq_false_iff_not] at*
  intro h3
  have a1:=fS x y
  have a2:=fS y z
  by_cases e1:eU x y=0
  ·rw[lE e1] at h3;exact h2 h3
  ·exact h2 (uK h3 (by omega))
 ·have a1:=fS x y
  simp only[Ee,sS,decide_eq_false_iff_not]
  omega
theorem Er{a b:List au}(h:a.Perm b):cC a=cC b:=tc ((l8 a).trans h) (CF a)
theorem Ni{a b:List au}(hn:b.Nodup):(decide ((a.length:Int)=b.length)&&decide (cC a=cC b))=m_ a b:=by
 rw[<-Bool.coe_iff_coe]
 simp only[m_,fY,decide_eq_true_eq,ew]
 constructor
 ·rintro⟨h1,h2⟩
  have hp:a.Perm b:=(l8 a).symm.trans (h2▸l8 b)
  exact⟨h1,fun j hj=>⟨hp.mem_iff.1 (getDM aT hj),hp.mem_iff.2 (getDM aT (by omega))⟩⟩
 ·rintro⟨h1,h2⟩
  refine⟨h1,Er (LH hn (fun x hx=> ?_) (by omega))⟩
  obtain⟨j,hj,rfl⟩:=zG hx
  have:=(h2 j (by omega)).2
  rw[gh,gr hj] at this
  exact this
theorem Gj{B:Int}{N n h:Nat}:∀{ls:List aq}{k:Nat},tr B N n h k ls->∀j,j<ls.length->IB B N (k+j) (if k+j+1=n then h else 0) (ls.getD j aB).bi
 |[],_,_,j,hj=>absurd hj (Nat.not_lt_zero _)
 |v::vs,k,⟨a,_⟩,0,_=>a
 |v::vs,k,⟨_,b⟩,j+1,hj=>by
  have:=Gj b j (Nat.lt_of_succ_lt_succ hj)
  rw[show k+1+j=k+(j+1) by omega] at this
  exact this
theorem OH{d:bY}{m x:df}{B:Int}{N:Nat}(hd:gJ d=true)(hx:zN d B N x):ru m x=wy (bg d) m x:=by
 obtain⟨nl,nf⟩:=ua d
 have E3:=hx
 obtain⟨x1,x2,_,x4⟩:=E3
 have lvl:∀i,i<d.af.length->∀k,k<(x.af.getD i bt).ao.length->∀l:List au,(decide ((l.length:Int)=((x.af.getD i bt).ao.getD k aB).bi.length)&&decide (cC l=cC ((x.af.getD i bt).ao.getD k aB).bi))=m_ l ((x.af.getD i bt).ao.getD k aB).bi:=fun i hi k hk l=>
  Ni (wF (Gj (x4 i hi) k hk).1)
 rw[<-Bool.coe_iff_coe]
 constructor
 ·intro h
  simp only[ru,fY,decide_eq_true_eq,ew] at h
  obtain⟨⟨h1,h2⟩,h3,h4⟩:=h
  have row:∀i,i<m.af.length->(m.af.getD i bt).ao.length=(x.af.getD i bt).ao.length/\∀k,k<(m.af.getD i bt).ao.length->uc m x i k=true:=fun i hi=>by
   have:=h4 i hi
   simp only[vt,fY,decide_eq_true_eq,ew] at this
   refine⟨by omega,fun k hk=> ?_⟩
   have hs:=this.2 k hk
   unfold rv at hs
   rw[lvl i (by omega) k (by omega)] at hs
   exact hs
  simp only[wy,fY,ew]
  refine⟨⟨?_,fun j hj=>decide_eq_true (h2 j hj)⟩,fun i hi=>ew.2 (row i hi).2⟩
  simp only[ke,fY,decide_eq_true_eq,ew]
  refine⟨⟨by omega,by omega⟩,fun i hi=> ?_⟩
  obtain⟨r1,r2⟩:=row i hi
  have hl:=qM (x4 i (by omega))
  obtain⟨c1,c2⟩:=nf i (by omega)
  have c1':=c1.1
  simp only[te,fY,decide_eq_true_eq,ew]
  refine⟨by omega,fun k hk=> ?_⟩
  have hv:=Gj (x4 i (by omega)) k (by omega)
  have hs:=r2 k (by omega)
  simp only[uc,m_,fY,decide_eq_true_eq,ew] at hs
  unfold vr zJ
  refine ew.2 fun j hj=> ?_
  have ht:=hv.2.2 _ (hs.2 j hj).1
  obtain⟨t1,t2,_⟩:=ht
  rw[oz] at t1 t2
  unfold Ka
  rw[t1,t2,decide_eq_true (by omega),Av]
  refine decide_eq_true ?_
  by_cases eS:k+1=(cB (d.af.getD i aP) false).length
  ·rw[if_pos eS,if_pos (by omega),c2]
  ·rw[if_neg eS,if_neg (by omega)];rfl
 ·intro h
  simp only[wy,fY,ew] at h
  obtain⟨⟨h1,h2⟩,h3⟩:=h
  obtain⟨z1,z2,z3,z4,z5,z6⟩:=CH hd h1 hx
  simp only[ru,fY,decide_eq_true_eq,ew]
  refine⟨⟨by omega,fun j hj=>yT (h2 j hj)⟩,by omega,fun i hi=> ?_⟩
  simp only[vt,fY,decide_eq_true_eq,ew]
  have hz:=(z6 i hi).1
  refine⟨by omega,fun k hk=> ?_⟩
  unfold rv
  rw[lvl i (by omega) k (by omega)]
  exact ew.1 (h3 i hi) k hk
theorem few{d:bY}{x:df}{B:Int}{N:Nat}(hd:gJ d=true)(hN:N<=40)(hx:zN d B N x):∀r∈x.af,∀v∈r.ao,v.bi.length<=4294967296:=by
 obtain⟨_,x2,_,x4⟩:=hx
 intro r hr v hv
 obtain⟨i,hi,rfl⟩:=zG hr
 obtain⟨k,hk,rfl⟩:=zG hv
 have hl:=x4 i (by omega)
 have hg:x.af.getD i bt=x.af[i]:=by rw[gh,gr hi];rfl
 rw[hg] at hl
 have hlen:=qM hl
 have h3:=(vu (F4 hd (i:=i) (by omega))).2.2.1
 have:=(Gj hl k hk).2.1
 rw[gh,gr hk,oz] at this
 replace this:(x.af[i].ao[k]).bi.length<=N*80^k:=this
 have wT:k=0\/k=1\/k=2:=by omega
 rcases wT with rfl|rfl|rfl<;>simp only[Nat.pow_zero,Nat.pow_one,show(80:Nat)^2=6400 from rfl] at this<;>omega
def sK(d:bY)(r:pG):Bool:=instOk d r.X&&jy d r.M r.X.S
def aqx:=bE (α:=bY×df×ap) (qC (qA .jc) (qC (qA .jU) (q1 (qA .dW)))) [.ro,.ro,.ro] (fun(d,m,s)=>[bo d<=4294967295,aj s.aa<=4294967295,∀r∈m.af,∀v∈r.ao,L4 v.bi.length]) (fun(d,m,s)=>⟨[dO (jy d m s)],[],[]⟩)
def arK:HH:=hF aqx func21 [ahK,ahJ,aq6,aq7] a0 fun x hp hb=>by
 obtain⟨d,m,s⟩:=x
 have aG:=gO (x:=d) (hb _ m0)
 have fj:=aG.1
 have ez:=aG.2
 have cr:=p6 (x:=m) (hb _ m1)
 have nU:=cr.1
 have pb:=cr.2
 have eR:=eG (x:=s) (hb _ m2)
 have bP:bo d<=4294967295:=hp _ m0
 have jv:aj s.aa<=4294967295:=hp _ m1
 have uZ:∀r∈m.af,∀v∈r.ao,v.bi.length<=4294967296:=hp _ m2
 clear hp hb
 apply vE (let q0:=uW d (bg d) s (s.aa.length);bif gJ d then bif eB s then bo d<=4294967295/\(bg d).ab.length<=4294967295/\gf (bg d)/\s.aa.length<=4294967295/\(∀(i:Nat),i<s.aa.length->QC d (bg d) (uW d (bg d) s i) (jP s i) (Gq s i))/\(∀(r:dR),r∈m.af->∀(v:aq),v∈r.ao->L4 v.bi.length)/\(∀(r:dR),r∈q0.af->∀(v:aq),v∈r.ao->L4 v.bi.length)/\Lb (ru m q0) (jy d m s) else Lb false (jy d m s) else Lb false (jy d m s))
 dsimp only
 refine ae (fun a1=>ae (fun a2=> ?_) (fun a2=>aQ (by unfold jy;rw[a2,qq];rfl))) (fun a1=>aQ (by unfold jy;rw[a1];rfl))
 have IL:=Gh bP
 rw[C2 a1] at IL
 obtain⟨hx,he⟩:=VC a1 a2 jv bP
 have ox:=(AA a1 a2 jv bP s.aa.length (og _)).2
 have hil:s.aa.length<=aj s.aa:=by unfold aj;omega
 have h40:s.aa.length<=40:=by
  simp only[eB,fY,decide_eq_true_eq] at a2
  exact a2.1.2
 rw[he]
 refine⟨bP,IL.1,IL.2,by omega,fun i hi=>(ox i hi).2,uZ,few a1 h40 hx,cx ?_⟩
 rw[OH a1 hx]
 unfold jy
 rw[a1,a2];rfl
def Zk6:=bE (α:=bY×pG) (qC (qA .jc) (q1 (qA .ra))) [.ro,.ro] (fun(d,r)=>[bo d<=4294967295,aj r.X.S.aa<=4294967295]) (fun(d,r)=>⟨[dO (sK d r)],[],[]⟩)
def Zh6:HH:=hF Zk6 func6 [arQ,arP] a0 fun x hp hb=>by
 obtain⟨d,r⟩:=x
 have aG:=gO (x:=d) (hb _ m0)
 have fj:=aG.1
 have ez:=aG.2
 have cr:=AN (x:=r) (hb _ m1)
 have Dc:=cr.1
 have Gz:=cr.2.1
 have Gy:=cr.2.2.1
 have EA:=cr.2.2.2.1
 have Gx:=cr.2.2.2.2.1
 have EB:=cr.2.2.2.2.2.1
 have GA:=cr.2.2.2.2.2.2
 have bP:bo d<=4294967295:=hp _ m0
 have jv:aj r.X.S.aa<=4294967295:=hp _ m1
 clear hp hb
 apply vE (bo d<=4294967295/\L4 (aj r.X.S.aa)/\bif instOk d r.X then bo d<=4294967295/\aj r.X.S.aa<=4294967295/\Lb (jy d r.M r.X.S) (sK d r) else Lb false (sK d r))
 exact⟨bP,by omega,ae (fun h=>⟨bP,jv,cx (by unfold sK;rw[h,Av])⟩) (fun h=>aQ (by unfold sK;rw[h,mD]))⟩
def Zk9:=bE (α:=bY×pG) (qC (qA .jc) (q1 (qA .ra))) [.ro,.ro] (fun(d,r)=>[bo d<=4294967295,aj r.X.S.aa<=4294967295,∀w∈r.M.af,∀v∈w.ao,L4 v.bi.length]) (fun(d,r)=>⟨[dO (sK d r)],[],[]⟩)
def Zh9:HH:=hF Zk9 func9 [arL,arK] a0 fun x hp hb=>by
 obtain⟨d,r⟩:=x
 have aG:=gO (x:=d) (hb _ m0)
 have fj:=aG.1
 have ez:=aG.2
 have cr:=AN (x:=r) (hb _ m1)
 have Dc:=cr.1
 have Gz:=cr.2.1
 have Gy:=cr.2.2.1
 have EA:=cr.2.2.2.1
 have Gx:=cr.2.2.2.2.1
 have EB:=cr.2.2.2.2.2.1
 have GA:=cr.2.2.2.2.2.2
 have bP:bo d<=4294967295:=hp _ m0
 have jv:aj r.X.S.aa<=4294967295:=hp _ m1
 have uZ:∀w∈r.M.af,∀v∈w.ao,v.bi.length<=4294967296:=hp _ m2
 clear hp hb
 apply vE (bo d<=4294967295/\L4 (aj r.X.S.aa)/\bif instOk d r.X then bo d<=4294967295/\aj r.X.S.aa<=4294967295/\(∀(r_1:dR),r_1∈r.M.af->∀(v:aq),v∈r_1.ao->L4 v.bi.length)/\Lb (jy d r.M r.X.S) (sK d r) else Lb false (sK d r))
 exact⟨bP,by omega,ae (fun h=>⟨bP,jv,uZ,cx (by unfold sK;rw[h,Av])⟩) (fun h=>aQ (by unfold sK;rw[h,mD]))⟩
theorem FX{α:Type}(f:α->Nat):∀{l:List α}{x:α},x∈l->f x<=(l.map f).sum
 |y::l,x,h=>by
  rw[rl,N4]
  rw[h_] at h
  rcases h with rfl|h
  ·omega
  ·have:=FX f h;omega
theorem Pl(m:df):∀w∈m.af,∀v∈w.ao,v.bi.length<=iQ m:=fun w hw v hv=>by
 have h1:=FX ik hw
 have h2:=FX fh hv
 have e1:iQ m=jB m.ab+(m.af.length+(m.af.map ik).sum):=rfl
 have e2:ik w=w.ao.length+(w.ao.map fh).sum:=rfl
 have e3:fh v=v.bi.length+(v.bi.map jk).sum:=rfl
 omega
def gN:kq UU where
 α:=bY×pG
 md:=[.ro,.ro]
 of:=oC (oA .qg) (o1 (oA .qf))
 ds:=fun x=>[dA .qg x.1,dA .qf x.2]
 pre:=fun _=>[]
 ot:=fun(aD,aR)=>⟨[dO true],[],[]⟩
 law:=lC (lA .qg) (l1 (lA .qf))
def s7:gN.α->Nat->Option (Ai UU):=fun(aD,aR)=>bq []
def sU:=us [Zh4,Zh5,Zh7,Zh8,Zh6,Zh9,arV,arU]
theorem tn:Holds EE (3,gN):=by
 refine holds_of JX func3 gN (by kernel_rfl) sU (Vr _) s7 (fun x hp hb=> ?_)
 obtain⟨aD,aR⟩:=x
 have aG:=GW (x:=aD) (hb _ m0)
 have aaR:=aG.1
 have VY:=aG.2
 have cr:=GV (x:=aR) (hb _ m1)
 have Of:=cr.1
 have RL:=cr.2.1
 have RK:=cr.2.2.1
 have P6:=cr.2.2.2.1
 have RJ:=cr.2.2.2.2.1
 have P7:=cr.2.2.2.2.2.1
 have RM:=cr.2.2.2.2.2.2
 clear hp hb
 apply vE (let x0:=dh 1048576 (bo aD);(0:Int)<=(1048576:Int)/\bif decide (x0<0) then Lb true true else 0<=x0/\bif decide (dh x0 (jl aR)<0) then Lb true true else L4 (bo aD)/\L4 (jl aR)/\bo aD<=4294967295/\aj aR.X.S.aa<=4294967295/\L4 (bo aD)/\L4 (jl aR)/\bo aD<=4294967295/\aj aR.X.S.aa<=4294967295/\(∀(w:dR),w∈aR.M.af->∀(v:aq),v∈w.ao->L4 v.bi.length)/\bif !sK aD aR==sK aD aR then Lb false true else L4 (bo aD)/\bif !decide (aD=aD) then Lb false true else L4 (jl aR)/\bif !decide (aR=aR) then Lb false true else Lb true true)
 dsimp only
 have hi:=GQ aR.X
 have hm:=Pl aR.M
 have hr:jl aR=eH aR.X+iQ aR.M:=rfl
 refine⟨by omega,ae (fun h=>aO _) (fun h=> ?_)⟩
 obtain⟨e0,h0⟩:=cN h
 refine⟨by omega,ae (fun h=>aO _) (fun h=> ?_)⟩
 obtain⟨e1,h1⟩:=cN h
 repeat' (first|exact aO _|refine And.intro (by omega) ?_|refine And.intro (fun w hw v hv=>by have:=hm w hw v hv;omega) ?_|refine ae (fun h=>absurd h (by first|(simp;done)|(simp;omega))) (fun h=> ?_)|fail)
end
end AM
