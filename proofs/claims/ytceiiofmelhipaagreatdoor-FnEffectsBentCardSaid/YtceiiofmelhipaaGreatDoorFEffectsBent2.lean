/- Functions of the program with their contracts: put together by gen/link.py for FnEffectsBent. -/
import Derived.Test.YtceiiofmelhipaaGreatDoorAmLib
import Derived.Test.YtceiiofmelhipaaGreatDoorFEffectsBent
import Derived.Lib.ItoaLen
import Derived.Lib.Join
import Derived.Test.YtceiiofmelhipaaGreatDoorShelf
namespace AM
open Go Go.Proofs.Tryz
set_option linter.unusedVariables false
set_option linter.unusedSimpArgs false
set_option maxRecDepth 100000
noncomputable section
def Zk99:Con UU where
 α:=DPat×DFact×(List DBind)
 md:=[.ro,.ro,.ro]
 of:=oC (oA .ePat) (oC (oA .eFact) (o1 (oL .eBind)))
 ds:=fun x=>[dA .ePat x.1,dA .eFact x.2.1,dL .eBind x.2.2]
 pre:=fun(p,f,l)=>[l.length+p.Args.length≤4294967295]
 res:=fun(p,f,l)=>⟨[dL .eBind ((matchP p f l).getD l),dO ((matchP p f l).isSome)],true,[]⟩
 law:=lC (lA .ePat) (lC (lA .eFact) (l1 (lL .eBind)))
def Zi99_5(p:DPat)(f:DFact)(l:(List DBind)):List DBind×Int×(ByteArray×List DArg×Bool×Unit)×(ByteArray×List DVal×Unit)×Unit→Prop:=fun(o,i,b,g,_)=>b=(p.Kind,p.Args,p.Not,())∧g=(f.Kind,f.Fields,())∧0≤i∧i≤p.Args.length∧o.length≤l.length+i∧matchArgs (p.Args.drop i.toNat) (f.Fields.drop i.toNat) o=matchP p f l
def Zm99_5(p:DPat)(f:DFact)(l:(List DBind)):List DBind×Int×(ByteArray×List DArg×Bool×Unit)×(ByteArray×List DVal×Unit)×Unit→Nat:=fun(o,i,b,g,_)=>p.Args.length-i.toNat
def Za99:Zk99.α→Nat→Option (Ann UU):=fun(p,f,l)=>annL [(5,annOf [.slot 8 (8,1024) (.own .eBind true),.slot 9 (9,1024) (.lit (.int .i64)),.box 3 (3,1024) [.lit .str,.shr .eArg,.lit .bool],.box 4 (4,1024) [.lit .str,.shr .eVal]] (fun _=>Zi99_5 p f l) (Zm99_5 p f l))]
def Zu99:=us [Zh119]
theorem Zo99:Holds EE (99,Zk99):=by
 refine holds_of EE_ok func99 Zk99 (by kernel_rfl) Zu99 (us_ok _) Za99 (fun x hp hb=> ?_)
 obtain⟨p,f,l⟩:=x
 have hz0:=bd_ePat (x:=p) (hb _ m0)
 have hl_p_Kind:=hz0.1
 have hl_p_Args:=hz0.2
 have hz1:=bd_eFact (x:=f) (hb _ m1)
 have hl_f_Kind:=hz1.1
 have hl_f_Fields:=hz1.2
 have hl_l:l.length≤9223372036854775807:=bdL (hb _ m2)
 have hp0:l.length+p.Args.length≤4294967295:=hp _ m0
 clear hp hb
 apply @ve _ ((0:Nat)+l.length≤(4294967296:Nat)∧bif !ByteArray.toList p.Kind==ByteArray.toList f.Kind then Lf [VL .eBind ([]++l),VB false] [VL .eBind (Option.getD (matchP p f l) l),VB (Option.isSome (matchP p f l))] else bif (p.Args.length:Int) !=(f.Fields.length:Int) then Lf [VL .eBind ([]++l),VB false] [VL .eBind (Option.getD (matchP p f l) l),VB (Option.isSome (matchP p f l))] else Zi99_5 p f l ([]++l,(0:Int),(p.Kind,p.Args,p.Not,()),(f.Kind,f.Fields,()),())∧∀(y:List DBind×Int×(ByteArray×List DArg×Bool×PUnit)×(ByteArray×List DVal×PUnit)×PUnit),let x3:Nat:=y.2.1.toNat;let x5:Nat:=y.2.2.1.2.1.length;let x0:DVal:=List.getD y.2.2.2.1.2.1 x3 zVal;let x2:DArg:=List.getD y.2.2.1.2.1 x3 zArg;let x4:Int:=(↑x5:Int);let x1:DVal:=x2.V;Zi99_5 p f l y→bif decide (y.2.1<x4) then(0:Int)≤y.2.1∧x3<x5∧bif x2.K==(2:Int) then(0:Int)≤y.2.1∧x3<y.2.2.2.1.2.1.length∧bif !(x1.K==x0.K&&(x1.N==x0.N&&(ByteArray.toList x1.S==ByteArray.toList x0.S&&true))) then(0:Nat)+l.length≤(4294967296:Nat)∧Lf [VL .eBind ([]++l),VB false] [VL .eBind (Option.getD (matchP p f l) l),VB (Option.isSome (matchP p f l))] else bif x2.K==(1:Int) then bif (bindOf {τ:=Cd.eBind,xs:=y.1:Arr UU}.xs x2.S).2 then(0:Int)≤y.2.1∧x3<y.2.2.2.1.2.1.length∧bif !((bindOf {τ:=Cd.eBind,xs:=y.1:Arr UU}.xs x2.S).1.K==x0.K&&((bindOf {τ:=Cd.eBind,xs:=y.1:Arr UU}.xs x2.S).1.N==x0.N&&(ByteArray.toList (bindOf {τ:=Cd.eBind,xs:=y.1:Arr UU}.xs x2.S).1.S==ByteArray.toList x0.S&&true))) then(0:Nat)+l.length≤(4294967296:Nat)∧Lf [VL .eBind ([]++l),VB false] [VL .eBind (Option.getD (matchP p f l) l),VB (Option.isSome (matchP p f l))] else bif x2.K==(1:Int) then bif !(bindOf {τ:=Cd.eBind,xs:=y.1:Arr UU}.xs x2.S).2 then(0:Int)≤y.2.1∧x3<y.2.2.2.1.2.1.length∧y.1.length+List.length [{Name:=x2.S,V:=x0:DBind}]≤(4294967296:Nat)∧Zi99_5 p f l (y.1++[{Name:=x2.S,V:=x0:DBind}],IntKind.wrap IntKind.i64 (y.2.1+(1:Int)),(y.2.2.1.1,y.2.2.1.2.1,y.2.2.1.2.2.1,()),(y.2.2.2.1.1,y.2.2.2.1.2.1,()),())∧Zm99_5 p f l (y.1++[{Name:=x2.S,V:=x0:DBind}],IntKind.wrap IntKind.i64 (y.2.1+(1:Int)),(y.2.2.1.1,y.2.2.1.2.1,y.2.2.1.2.2.1,()),(y.2.2.2.1.1,y.2.2.2.1.2.1,()),())<Zm99_5 p f l y else Zi99_5 p f l (y.1,IntKind.wrap IntKind.i64 (y.2.1+(1:Int)),(y.2.2.1.1,y.2.2.1.2.1,y.2.2.1.2.2.1,()),(y.2.2.2.1.1,y.2.2.2.1.2.1,()),())∧Zm99_5 p f l (y.1,IntKind.wrap IntKind.i64 (y.2.1+(1:Int)),(y.2.2.1.1,y.2.2.1.2.1,y.2.2.1.2.2.1,()),(y.2.2.2.1.1,y.2.2.2.1.2.1,()),())<Zm99_5 p f l y else Zi99_5 p f l (y.1,IntKind.wrap IntKind.i64 (y.2.1+(1:Int)),(y.2.2.1.1,y.2.2.1.2.1,y.2.2.1.2.2.1,()),(y.2.2.2.1.1,y.2.2.2.1.2.1,()),())∧Zm99_5 p f l (y.1,IntKind.wrap IntKind.i64 (y.2.1+(1:Int)),(y.2.2.1.1,y.2.2.1.2.1,y.2.2.1.2.2.1,()),(y.2.2.2.1.1,y.2.2.2.1.2.1,()),())<Zm99_5 p f l y else bif x2.K==(1:Int) then bif !(bindOf {τ:=Cd.eBind,xs:=y.1:Arr UU}.xs x2.S).2 then(0:Int)≤y.2.1∧x3<y.2.2.2.1.2.1.length∧y.1.length+List.length [{Name:=x2.S,V:=x0:DBind}]≤(4294967296:Nat)∧Zi99_5 p f l (y.1++[{Name:=x2.S,V:=x0:DBind}],IntKind.wrap IntKind.i64 (y.2.1+(1:Int)),(y.2.2.1.1,y.2.2.1.2.1,y.2.2.1.2.2.1,()),(y.2.2.2.1.1,y.2.2.2.1.2.1,()),())∧Zm99_5 p f l (y.1++[{Name:=x2.S,V:=x0:DBind}],IntKind.wrap IntKind.i64 (y.2.1+(1:Int)),(y.2.2.1.1,y.2.2.1.2.1,y.2.2.1.2.2.1,()),(y.2.2.2.1.1,y.2.2.2.1.2.1,()),())<Zm99_5 p f l y else Zi99_5 p f l (y.1,IntKind.wrap IntKind.i64 (y.2.1+(1:Int)),(y.2.2.1.1,y.2.2.1.2.1,y.2.2.1.2.2.1,()),(y.2.2.2.1.1,y.2.2.2.1.2.1,()),())∧Zm99_5 p f l (y.1,IntKind.wrap IntKind.i64 (y.2.1+(1:Int)),(y.2.2.1.1,y.2.2.1.2.1,y.2.2.1.2.2.1,()),(y.2.2.2.1.1,y.2.2.2.1.2.1,()),())<Zm99_5 p f l y else Zi99_5 p f l (y.1,IntKind.wrap IntKind.i64 (y.2.1+(1:Int)),(y.2.2.1.1,y.2.2.1.2.1,y.2.2.1.2.2.1,()),(y.2.2.2.1.1,y.2.2.2.1.2.1,()),())∧Zm99_5 p f l (y.1,IntKind.wrap IntKind.i64 (y.2.1+(1:Int)),(y.2.2.1.1,y.2.2.1.2.1,y.2.2.1.2.2.1,()),(y.2.2.2.1.1,y.2.2.2.1.2.1,()),())<Zm99_5 p f l y else bif x2.K==(1:Int) then bif !(bindOf {τ:=Cd.eBind,xs:=y.1:Arr UU}.xs x2.S).2 then(0:Int)≤y.2.1∧x3<y.2.2.2.1.2.1.length∧y.1.length+List.length [{Name:=x2.S,V:=x0:DBind}]≤(4294967296:Nat)∧Zi99_5 p f l (y.1++[{Name:=x2.S,V:=x0:DBind}],IntKind.wrap IntKind.i64 (y.2.1+(1:Int)),(y.2.2.1.1,y.2.2.1.2.1,y.2.2.1.2.2.1,()),(y.2.2.2.1.1,y.2.2.2.1.2.1,()),())∧Zm99_5 p f l (y.1++[{Name:=x2.S,V:=x0:DBind}],IntKind.wrap IntKind.i64 (y.2.1+(1:Int)),(y.2.2.1.1,y.2.2.1.2.1,y.2.2.1.2.2.1,()),(y.2.2.2.1.1,y.2.2.2.1.2.1,()),())<Zm99_5 p f l y else Zi99_5 p f l (y.1,IntKind.wrap IntKind.i64 (y.2.1+(1:Int)),(y.2.2.1.1,y.2.2.1.2.1,y.2.2.1.2.2.1,()),(y.2.2.2.1.1,y.2.2.2.1.2.1,()),())∧Zm99_5 p f l (y.1,IntKind.wrap IntKind.i64 (y.2.1+(1:Int)),(y.2.2.1.1,y.2.2.1.2.1,y.2.2.1.2.2.1,()),(y.2.2.2.1.1,y.2.2.2.1.2.1,()),())<Zm99_5 p f l y else Zi99_5 p f l (y.1,IntKind.wrap IntKind.i64 (y.2.1+(1:Int)),(y.2.2.1.1,y.2.2.1.2.1,y.2.2.1.2.2.1,()),(y.2.2.2.1.1,y.2.2.2.1.2.1,()),())∧Zm99_5 p f l (y.1,IntKind.wrap IntKind.i64 (y.2.1+(1:Int)),(y.2.2.1.1,y.2.2.1.2.1,y.2.2.1.2.2.1,()),(y.2.2.2.1.1,y.2.2.2.1.2.1,()),())<Zm99_5 p f l y else bif x2.K==(1:Int) then bif (bindOf {τ:=Cd.eBind,xs:=y.1:Arr UU}.xs x2.S).2 then(0:Int)≤y.2.1∧x3<y.2.2.2.1.2.1.length∧bif !((bindOf {τ:=Cd.eBind,xs:=y.1:Arr UU}.xs x2.S).1.K==x0.K&&((bindOf {τ:=Cd.eBind,xs:=y.1:Arr UU}.xs x2.S).1.N==x0.N&&(ByteArray.toList (bindOf {τ:=Cd.eBind,xs:=y.1:Arr UU}.xs x2.S).1.S==ByteArray.toList x0.S&&true))) then(0:Nat)+l.length≤(4294967296:Nat)∧Lf [VL .eBind ([]++l),VB false] [VL .eBind (Option.getD (matchP p f l) l),VB (Option.isSome (matchP p f l))] else bif x2.K==(1:Int) then bif !(bindOf {τ:=Cd.eBind,xs:=y.1:Arr UU}.xs x2.S).2 then(0:Int)≤y.2.1∧x3<y.2.2.2.1.2.1.length∧y.1.length+List.length [{Name:=x2.S,V:=x0:DBind}]≤(4294967296:Nat)∧Zi99_5 p f l (y.1++[{Name:=x2.S,V:=x0:DBind}],IntKind.wrap IntKind.i64 (y.2.1+(1:Int)),(y.2.2.1.1,y.2.2.1.2.1,y.2.2.1.2.2.1,()),(y.2.2.2.1.1,y.2.2.2.1.2.1,()),())∧Zm99_5 p f l (y.1++[{Name:=x2.S,V:=x0:DBind}],IntKind.wrap IntKind.i64 (y.2.1+(1:Int)),(y.2.2.1.1,y.2.2.1.2.1,y.2.2.1.2.2.1,()),(y.2.2.2.1.1,y.2.2.2.1.2.1,()),())<Zm99_5 p f l y else Zi99_5 p f l (y.1,IntKind.wrap IntKind.i64 (y.2.1+(1:Int)),(y.2.2.1.1,y.2.2.1.2.1,y.2.2.1.2.2.1,()),(y.2.2.2.1.1,y.2.2.2.1.2.1,()),())∧Zm99_5 p f l (y.1,IntKind.wrap IntKind.i64 (y.2.1+(1:Int)),(y.2.2.1.1,y.2.2.1.2.1,y.2.2.1.2.2.1,()),(y.2.2.2.1.1,y.2.2.2.1.2.1,()),())<Zm99_5 p f l y else Zi99_5 p f l (y.1,IntKind.wrap IntKind.i64 (y.2.1+(1:Int)),(y.2.2.1.1,y.2.2.1.2.1,y.2.2.1.2.2.1,()),(y.2.2.2.1.1,y.2.2.2.1.2.1,()),())∧Zm99_5 p f l (y.1,IntKind.wrap IntKind.i64 (y.2.1+(1:Int)),(y.2.2.1.1,y.2.2.1.2.1,y.2.2.1.2.2.1,()),(y.2.2.2.1.1,y.2.2.2.1.2.1,()),())<Zm99_5 p f l y else bif x2.K==(1:Int) then bif !(bindOf {τ:=Cd.eBind,xs:=y.1:Arr UU}.xs x2.S).2 then(0:Int)≤y.2.1∧x3<y.2.2.2.1.2.1.length∧y.1.length+List.length [{Name:=x2.S,V:=x0:DBind}]≤(4294967296:Nat)∧Zi99_5 p f l (y.1++[{Name:=x2.S,V:=x0:DBind}],IntKind.wrap IntKind.i64 (y.2.1+(1:Int)),(y.2.2.1.1,y.2.2.1.2.1,y.2.2.1.2.2.1,()),(y.2.2.2.1.1,y.2.2.2.1.2.1,()),())∧Zm99_5 p f l (y.1++[{Name:=x2.S,V:=x0:DBind}],IntKind.wrap IntKind.i64 (y.2.1+(1:Int)),(y.2.2.1.1,y.2.2.1.2.1,y.2.2.1.2.2.1,()),(y.2.2.2.1.1,y.2.2.2.1.2.1,()),())<Zm99_5 p f l y else Zi99_5 p f l (y.1,IntKind.wrap IntKind.i64 (y.2.1+(1:Int)),(y.2.2.1.1,y.2.2.1.2.1,y.2.2.1.2.2.1,()),(y.2.2.2.1.1,y.2.2.2.1.2.1,()),())∧Zm99_5 p f l (y.1,IntKind.wrap IntKind.i64 (y.2.1+(1:Int)),(y.2.2.1.1,y.2.2.1.2.1,y.2.2.1.2.2.1,()),(y.2.2.2.1.1,y.2.2.2.1.2.1,()),())<Zm99_5 p f l y else Zi99_5 p f l (y.1,IntKind.wrap IntKind.i64 (y.2.1+(1:Int)),(y.2.2.1.1,y.2.2.1.2.1,y.2.2.1.2.2.1,()),(y.2.2.2.1.1,y.2.2.2.1.2.1,()),())∧Zm99_5 p f l (y.1,IntKind.wrap IntKind.i64 (y.2.1+(1:Int)),(y.2.2.1.1,y.2.2.1.2.1,y.2.2.1.2.2.1,()),(y.2.2.2.1.1,y.2.2.2.1.2.1,()),())<Zm99_5 p f l y else bif x2.K==(1:Int) then bif !(bindOf {τ:=Cd.eBind,xs:=y.1:Arr UU}.xs x2.S).2 then(0:Int)≤y.2.1∧x3<y.2.2.2.1.2.1.length∧y.1.length+List.length [{Name:=x2.S,V:=x0:DBind}]≤(4294967296:Nat)∧Zi99_5 p f l (y.1++[{Name:=x2.S,V:=x0:DBind}],IntKind.wrap IntKind.i64 (y.2.1+(1:Int)),(y.2.2.1.1,y.2.2.1.2.1,y.2.2.1.2.2.1,()),(y.2.2.2.1.1,y.2.2.2.1.2.1,()),())∧Zm99_5 p f l (y.1++[{Name:=x2.S,V:=x0:DBind}],IntKind.wrap IntKind.i64 (y.2.1+(1:Int)),(y.2.2.1.1,y.2.2.1.2.1,y.2.2.1.2.2.1,()),(y.2.2.2.1.1,y.2.2.2.1.2.1,()),())<Zm99_5 p f l y else Zi99_5 p f l (y.1,IntKind.wrap IntKind.i64 (y.2.1+(1:Int)),(y.2.2.1.1,y.2.2.1.2.1,y.2.2.1.2.2.1,()),(y.2.2.2.1.1,y.2.2.2.1.2.1,()),())∧Zm99_5 p f l (y.1,IntKind.wrap IntKind.i64 (y.2.1+(1:Int)),(y.2.2.1.1,y.2.2.1.2.1,y.2.2.1.2.2.1,()),(y.2.2.2.1.1,y.2.2.2.1.2.1,()),())<Zm99_5 p f l y else Zi99_5 p f l (y.1,IntKind.wrap IntKind.i64 (y.2.1+(1:Int)),(y.2.2.1.1,y.2.2.1.2.1,y.2.2.1.2.2.1,()),(y.2.2.2.1.1,y.2.2.2.1.2.1,()),())∧Zm99_5 p f l (y.1,IntKind.wrap IntKind.i64 (y.2.1+(1:Int)),(y.2.2.1.1,y.2.2.1.2.1,y.2.2.1.2.2.1,()),(y.2.2.2.1.1,y.2.2.2.1.2.1,()),())<Zm99_5 p f l y else Lf [VL .eBind y.1,VB true] [VL .eBind (Option.getD (matchP p f l) l),VB (Option.isSome (matchP p f l))]) (by kernel_rfl)
 dsimp only
 have hF:matchP p f l=none→Lf [.one (.sl .eBind l),.one (.lit (.bool false))] [.one (.sl .eBind ((matchP p f l).getD l)),.one (.lit (.bool (matchP p f l).isSome))]:=fun e=>by rw[e];exact Lf_rfl _
 refine⟨by show 0+l.length≤_;omega,if_strn (fun hk=>hF (if_neg (fun e=>hk e.1.symm))) (fun hk=>if_neq (fun hl=>hF (if_neg (by omega))) (fun hl=> ?_))⟩
 have hl:f.Fields.length=p.Args.length:=by omega
 have hM:matchP p f l=matchArgs p.Args f.Fields l:=if_pos ⟨hk.symm,hl⟩
 refine⟨⟨rfl,rfl,by omega,by omega,by show((l.length:Nat):Int)≤_;omega,hM.symm⟩,?_⟩
 rintro⟨o,i,⟨b1,b2,b3,⟨⟩⟩,⟨g1,g2,⟨⟩⟩,⟨⟩⟩
 rintro⟨hb,hg,h1,h2,h3,hR⟩
 cases hb
 cases hg
 refine if_dec (fun hc=> ?_) (fun hc=> ?_)
 ·have hc:i<p.Args.length:=hc
  rw[matchArgs_step o h1 hc hl] at hR
  have hN:matchStep o (List.getD p.Args i.toNat zArg) (List.getD f.Fields i.toNat zVal)=none→matchP p f l=none:=fun e=>by rw[←hR,e]
  have hS:∀o',matchStep o (List.getD p.Args i.toNat zArg) (List.getD f.Fields i.toNat zVal)=some o'→matchArgs (p.Args.drop (i+1).toNat) (f.Fields.drop (i+1).toNat) o'=matchP p f l:=fun o' e=>by rw[←hR,e]
  clear hR
  have hs:∀o',o'.length≤o.length+1→matchStep o (List.getD p.Args i.toNat zArg) (List.getD f.Fields i.toNat zVal)=some o'→Zi99_5 p f l (o',IntKind.wrap .i64 (i+1),(p.Kind,p.Args,p.Not,()),(f.Kind,f.Fields,()),())∧Zm99_5 p f l (o',IntKind.wrap .i64 (i+1),(p.Kind,p.Args,p.Not,()),(f.Kind,f.Fields,()),())<Zm99_5 p f l (o,i,(p.Kind,p.Args,p.Not,()),(f.Kind,f.Fields,()),()):=fun o' h4 e=>by
   rw[wrap_i64 (by omega) (by omega)]
   exact⟨⟨rfl,rfl,by omega,by omega,by omega,hS o' e⟩,by simp only[Zm99_5];omega⟩
  clear hS
  have q1:(0:Int)≤i∧i.toNat<p.Args.length:=by omega
  have q2:(0:Int)≤i∧i.toNat<f.Fields.length:=by omega
  have q3:l.length≤4294967296:=by omega
  have q4:o.length+1≤4294967296:=by omega
  have q5:(0:Nat)+l.length≤4294967296:=by omega
  refine⟨q1.1,q1.2,?_⟩
  repeat' (first|refine And.intro q2.1 (And.intro q2.2 ?_)|refine And.intro q5 ?_|refine And.intro q4 ?_|refine if_num (fun _=> ?_) (fun _=> ?_)|refine if_valn (fun _=> ?_) (fun _=> ?_)|refine if_not (fun _=> ?_) (fun _=> ?_)|refine if_cond (fun _=> ?_) (fun _=> ?_))
  all_goals first|exact hF (hN (by(try simp only at*);simp only[matchStep];grind))|exact hs _ (by simp) (by(try simp only at*);simp only[matchStep];grind)
 ·rw[drop_end p.Args (by have hc:¬i<p.Args.length:=hc;omega)] at hR
  have hR:matchP p f l=some o:=hR.symm
  rw[hR];exact Lf_rfl _
def Zh99:HH:=⟨_,Zo99⟩
def Zk97:Con UU where
 α:=DRule×DStore×(List DBind)
 md:=[.ro,.ro,.ro]
 of:=oC (oA .eRule) (oC (oA .eStore) (o1 (oL .eBind)))
 ds:=fun x=>[dA .eRule x.1,dA .eStore x.2.1,dL .eBind x.2.2]
 pre:=fun(r,s,l)=>[∀p,p∈r.Pats→l.length+p.Args.length≤4294967295]
 res:=fun(r,s,l)=>⟨[dO (blockedR r s.Items l)],true,[]⟩
 law:=lC (lA .eRule) (lC (lA .eStore) (l1 (lL .eBind)))
def Zi97_2(r:DRule)(s:DStore)(l:(List DBind)):Int×(ByteArray×Int×List DPat×List DCond×List DAct×Unit)×(List DItem×Int×Unit)×Unit→Prop:=fun(i,b,g,_)=>b=(r.Name,r.Sal,r.Pats,r.Conds,r.Acts,())∧g=(s.Items,s.Next,())∧0≤i∧i≤r.Pats.length∧(r.Pats.drop i.toNat).any (blockP s.Items l)=blockedR r s.Items l
def Zm97_2(r:DRule)(s:DStore)(l:(List DBind)):Int×(ByteArray×Int×List DPat×List DCond×List DAct×Unit)×(List DItem×Int×Unit)×Unit→Nat:=fun(i,b,g,_)=>r.Pats.length-i.toNat
def Zi97_5(r:DRule)(s:DStore)(l:(List DBind)):Int×Int×(ByteArray×Int×List DPat×List DCond×List DAct×Unit)×(List DItem×Int×Unit)×Unit→Int×Int×(ByteArray×Int×List DPat×List DCond×List DAct×Unit)×(List DItem×Int×Unit)×Unit→Prop:=fun(i0,k0,b0,g0,_) (i,k,b,g,_)=>i=i0∧b=b0∧g=g0∧0≤k∧k≤s.Items.length∧((List.getD r.Pats i.toNat zPat).Not=false→k=0)∧(s.Items.drop k.toNat).any (hitP (List.getD r.Pats i.toNat zPat) l)=s.Items.any (hitP (List.getD r.Pats i.toNat zPat) l)
def Zm97_5(r:DRule)(s:DStore)(l:(List DBind)):Int×Int×(ByteArray×Int×List DPat×List DCond×List DAct×Unit)×(List DItem×Int×Unit)×Unit→Nat:=fun(i,k,b,g,_)=>s.Items.length-k.toNat
def Za97:Zk97.α→Nat→Option (Ann UU):=fun(r,s,l)=>annL [(2,annOf [.slot 7 (7,1024) (.lit (.int .i64)),.box 3 (3,1024) [.lit .str,.lit (.int .i64),.shr .ePat,.shr .eCond,.shr .eAct],.box 4 (4,1024) [.shr .eItem,.lit (.int .i64)]] (fun _=>Zi97_2 r s l) (Zm97_2 r s l)),(5,annOf [.slot 7 (7,1024) (.lit (.int .i64)),.slot 8 (8,1024) (.lit (.int .i64)),.box 3 (3,1024) [.lit .str,.lit (.int .i64),.shr .ePat,.shr .eCond,.shr .eAct],.box 4 (4,1024) [.shr .eItem,.lit (.int .i64)]] (Zi97_5 r s l) (Zm97_5 r s l))]
def Zu97:=us [Zh99]
theorem Zo97:Holds EE (97,Zk97):=by
 refine holds_of EE_ok func97 Zk97 (by kernel_rfl) Zu97 (us_ok _) Za97 (fun x hp hb=> ?_)
 obtain⟨r,s,l⟩:=x
 have hz0:=bd_eRule (x:=r) (hb _ m0)
 have hl_r_Name:=hz0.1
 have hl_r_Pats:=hz0.2.1
 have hl_r_Conds:=hz0.2.2.1
 have hl_r_Acts:=hz0.2.2.2
 have hl_s_Items:=bd_eStore (x:=s) (hb _ m1)
 have hl_l:l.length≤9223372036854775807:=bdL (hb _ m2)
 have hp0:∀p,p∈r.Pats→l.length+p.Args.length≤4294967295:=hp _ m0
 clear hp hb
 apply @ve _ (Zi97_2 r s l ((0:Int),(r.Name,r.Sal,r.Pats,r.Conds,r.Acts,()),(s.Items,s.Next,()),())∧∀(y:Int×(ByteArray×Int×List DPat×List DCond×List DAct×PUnit)×(List DItem×Int×PUnit)×PUnit),let x0:Int:=(y.2.1.2.2.1.length:Int);Zi97_2 r s l y→bif decide (y.1<x0) then Zi97_5 r s l (y.1,(0:Int),(y.2.1.1,y.2.1.2.1,y.2.1.2.2.1,y.2.1.2.2.2.1,y.2.1.2.2.2.2.1,()),(y.2.2.1.1,y.2.2.1.2.1,()),()) (y.1,(0:Int),(y.2.1.1,y.2.1.2.1,y.2.1.2.2.1,y.2.1.2.2.2.1,y.2.1.2.2.2.2.1,()),(y.2.2.1.1,y.2.2.1.2.1,()),())∧∀(y_1:Int×Int×(ByteArray×Int×List DPat×List DCond×List DAct×PUnit)×(List DItem×Int×PUnit)×PUnit),let x1:DPat:=List.getD y_1.2.2.1.2.2.1 y_1.1.toNat zPat;let x3:Nat:=y_1.2.2.2.1.1.length;let x4:Nat:=y_1.2.1.toNat;let x2:Int:=(↑x3:Int);Zi97_5 r s l (y.1,(0:Int),(y.2.1.1,y.2.1.2.1,y.2.1.2.2.1,y.2.1.2.2.2.1,y.2.1.2.2.2.2.1,()),(y.2.2.1.1,y.2.2.1.2.1,()),()) y_1→bif decide (y_1.2.1<x2) then(0:Int)≤y_1.1∧y_1.1.toNat<y_1.2.2.1.2.2.1.length∧bif x1.Not then(0:Int)≤y_1.1∧y_1.1.toNat<y_1.2.2.1.2.2.1.length∧(0:Int)≤y_1.2.1∧x4<x3∧l.length+x1.Args.length≤(4294967295:Nat)∧bif Option.isSome (matchP x1 (List.getD y_1.2.2.2.1.1 x4 zItem).F l) then Lb true (blockedR r s.Items l) else Zi97_5 r s l (y.1,(0:Int),(y.2.1.1,y.2.1.2.1,y.2.1.2.2.1,y.2.1.2.2.2.1,y.2.1.2.2.2.2.1,()),(y.2.2.1.1,y.2.2.1.2.1,()),()) (y_1.1,IntKind.wrap IntKind.i64 (y_1.2.1+(1:Int)),(y_1.2.2.1.1,y_1.2.2.1.2.1,y_1.2.2.1.2.2.1,y_1.2.2.1.2.2.2.1,y_1.2.2.1.2.2.2.2.1,()),(y_1.2.2.2.1.1,y_1.2.2.2.1.2.1,()),())∧Zm97_5 r s l (y_1.1,IntKind.wrap IntKind.i64 (y_1.2.1+(1:Int)),(y_1.2.2.1.1,y_1.2.2.1.2.1,y_1.2.2.1.2.2.1,y_1.2.2.1.2.2.2.1,y_1.2.2.1.2.2.2.2.1,()),(y_1.2.2.2.1.1,y_1.2.2.2.1.2.1,()),())<Zm97_5 r s l y_1 else Zi97_2 r s l (IntKind.wrap IntKind.i64 (y_1.1+(1:Int)),(y_1.2.2.1.1,y_1.2.2.1.2.1,y_1.2.2.1.2.2.1,y_1.2.2.1.2.2.2.1,y_1.2.2.1.2.2.2.2.1,()),(y_1.2.2.2.1.1,y_1.2.2.2.1.2.1,()),())∧Zm97_2 r s l (IntKind.wrap IntKind.i64 (y_1.1+(1:Int)),(y_1.2.2.1.1,y_1.2.2.1.2.1,y_1.2.2.1.2.2.1,y_1.2.2.1.2.2.2.1,y_1.2.2.1.2.2.2.2.1,()),(y_1.2.2.2.1.1,y_1.2.2.2.1.2.1,()),())<Zm97_2 r s l y else Zi97_2 r s l (IntKind.wrap IntKind.i64 (y_1.1+(1:Int)),(y_1.2.2.1.1,y_1.2.2.1.2.1,y_1.2.2.1.2.2.1,y_1.2.2.1.2.2.2.1,y_1.2.2.1.2.2.2.2.1,()),(y_1.2.2.2.1.1,y_1.2.2.2.1.2.1,()),())∧Zm97_2 r s l (IntKind.wrap IntKind.i64 (y_1.1+(1:Int)),(y_1.2.2.1.1,y_1.2.2.1.2.1,y_1.2.2.1.2.2.1,y_1.2.2.1.2.2.2.1,y_1.2.2.1.2.2.2.2.1,()),(y_1.2.2.2.1.1,y_1.2.2.2.1.2.1,()),())<Zm97_2 r s l y else Lb false (blockedR r s.Items l)) (by kernel_rfl)
 dsimp only
 refine⟨⟨rfl,rfl,by omega,by omega,rfl⟩,?_⟩
 rintro⟨i,⟨b1,b2,b3,b4,b5,⟨⟩⟩,⟨g1,g2,⟨⟩⟩,⟨⟩⟩ ⟨hb,hg,h1,h2,hR⟩
 cases hb
 cases hg
 simp only
 refine if_dec (fun hc=> ?_) (fun hc=> ?_)
 ·rw[any_step _ _ zPat h1 hc] at hR
  have hm:List.getD r.Pats i.toNat zPat∈r.Pats:=by rw[zac,zad (by omega)];exact zda _
  have hp:=hp0 _ hm
  refine⟨⟨rfl,rfl,rfl,by omega,by omega,fun _=>rfl,rfl⟩,?_⟩
  rintro⟨i',k,⟨b1,b2,b3,b4,b5,⟨⟩⟩,⟨g1,g2,⟨⟩⟩,⟨⟩⟩ ⟨rfl,hb,hg,k1,k2,k3,kR⟩
  cases hb
  cases hg
  simp only
  have next:blockP s.Items l (List.getD r.Pats i'.toNat zPat)=false→Zi97_2 r s l (IntKind.wrap IntKind.i64 (i'+1),(r.Name,r.Sal,r.Pats,r.Conds,r.Acts,()),(s.Items,s.Next,()),())∧Zm97_2 r s l (IntKind.wrap IntKind.i64 (i'+1),(r.Name,r.Sal,r.Pats,r.Conds,r.Acts,()),(s.Items,s.Next,()),())<Zm97_2 r s l (i',(r.Name,r.Sal,r.Pats,r.Conds,r.Acts,()),(s.Items,s.Next,()),()):=fun e=>by
   rw[wrap_i64 (by omega) (by omega)]
   exact⟨⟨rfl,rfl,by omega,by omega,by rw[←hR,e,zcw]⟩,by simp only[Zm97_2];omega⟩
  refine if_dec (fun hk=>⟨by omega,by omega,if_cond (fun g=>⟨by omega,by omega,by omega,by omega,hp,if_cond (fun g'=>Lf_tt ?_) (fun g'=> ?_)⟩) (fun g=>next (by rw[blockP,g];rfl))⟩) (fun hk=>next ?_)
  ·rw[any_step _ _ zItem k1 hk,show hitP (List.getD r.Pats i'.toNat zPat) l (List.getD s.Items k.toNat zItem)=true from g'] at kR
   rw[←hR,blockP,g,←kR];rfl
  ·rw[any_step _ _ zItem k1 hk,show hitP (List.getD r.Pats i'.toNat zPat) l (List.getD s.Items k.toNat zItem)=false from g',zcw] at kR
   rw[wrap_i64 (n:=k+1) (by omega) (by omega)]
   exact⟨⟨rfl,rfl,rfl,by omega,by omega,fun e=>absurd g (by rw[e];decide),kR⟩,by simp only[Zm97_5];omega⟩
  ·rw[drop_end _ (by omega)] at kR
   rw[blockP,←kR];exact zbs _
 ·rw[drop_end _ (by omega)] at hR
  exact Lf_ff hR.symm
def Zh97:HH:=⟨_,Zo97⟩
def posR(r:DRule):List DPat:=r.Pats.filter fun p=> !p.Not
def rowsR(r:DRule)(s:List DItem):List DPat→List Int→List DBind→List DMatch
 |[],ids,l=>if(!blockedR r s l&&holdAll r.Conds l)=true then[⟨0,ids,l⟩] else[]
 |p::ps,ids,l=>s.flatMap fun x=>match matchP p x.F l with|some more=>rowsR r s ps (ids++[x.Id]) more|none=>[]
def rowsAt(r:DRule)(s:List DItem)(ids:List Int)(l:List DBind):List DMatch:=rowsR r s ((posR r).drop ids.length) ids l
def rowsI(r:DRule)(s:List DItem)(ids:List Int)(l:List DBind)(x:DItem):List DMatch:=match matchP (List.getD (posR r) ids.length zPat) x.F l with|some more=>rowsAt r s (ids++[x.Id]) more|none=>[]
theorem rowsAt_end{r:DRule}(s:List DItem){ids:List Int}(l:List DBind)(h:ids.length=posN r.Pats):rowsAt r s ids l=if(!blockedR r s l&&holdAll r.Conds l)=true then[⟨0,ids,l⟩] else[]:=by
 have e:(posR r).drop ids.length=[]:=List.drop_eq_nil_of_le (by rw[h];exact zca _)
 simp only[rowsAt,e,rowsR]
theorem rowsAt_step{r:DRule}(s:List DItem){ids:List Int}(l:List DBind)(h:ids.length<posN r.Pats):rowsAt r s ids l=s.flatMap (rowsI r s ids l):=by
 have h:ids.length<(posR r).length:=h
 have e:(posR r).drop ids.length=List.getD (posR r) ids.length zPat::(posR r).drop (ids.length+1):=by
  rw[zel h,zac,zad h];rfl
 simp only[rowsAt,e,rowsR]
 congr 1
 funext x
 simp only[rowsI,rowsAt,zce,zbq,zbo,zbw]
theorem flatStep{α β:Type}(q:α→List β)(l:List α)(z:α){i:Int}(h0:0≤i)(h:i<l.length):(l.take (i+1).toNat).flatMap q=(l.take i.toNat).flatMap q++q (List.getD l i.toNat z):=by
 rw[←take_step l z h0 h,zep];simp
theorem flatM_le{α β:Type}(q:α→List β)(l:List α)(n:Nat):((l.take n).flatMap q).length≤(l.flatMap q).length:=by
 conv=>rhs;rw[←zcq n l,zep,zce]
 exact Nat.le_add_right _ _
theorem flatM_len{α β:Type}(q:α→List β)(c:Nat):∀(l:List α),(∀x,x∈l→(q x).length≤c)→(l.flatMap q).length≤l.length*c
 |[],_=>by simp
 |x::l,h=>by
  have h1:=h x (by simp)
  have h2:=flatM_len q c l (fun y hy=>h y (by simp[hy]))
  rw[zbm,zce,zbq,Nat.succ_mul];omega
theorem rowsR_len(r:DRule)(s:List DItem):∀(ps:List DPat)(ids:List Int)(l:List DBind),(rowsR r s ps ids l).length≤s.length^ps.length
 |[],ids,l=>by simp only[rowsR];split<;>simp
 |p::ps,ids,l=>by
  simp only[rowsR,zbq,Nat.pow_succ]
  rw[zec]
  refine flatM_len _ _ _ (fun x _=> ?_)
  split
  ·exact rowsR_len r s ps _ _
  ·simp
structure rowsOk(r:DRule)(s:List DItem)(n:Nat)(ids:List Int)(l:List DBind):Prop where
 le:ids.length≤posN r.Pats
 three:posN r.Pats≤3
 pats:r.Pats.length≤6
 args:∀p,p∈r.Pats→p.Args.length≤5
 items:s.length≤40
 binds:l.length≤5*ids.length
 room:n+(rowsAt r s ids l).length≤4294967295
theorem posR_mem{r:DRule}{k:Nat}(h:k<posN r.Pats):List.getD (posR r) k zPat∈r.Pats:=by
 have h:k<(posR r).length:=h
 rw[zac,zad h]
 exact(zcg.1 (zda h)).1
theorem rowsOk_step{r:DRule}{s:List DItem}{n:Nat}{ids:List Int}{l more:List DBind}{i:Int}(h:rowsOk r s n ids l)(hk:ids.length<posN r.Pats)(h0:0≤i)(hi:i<s.length)(hm:matchP (List.getD (posR r) ids.length zPat) (List.getD s i.toNat zItem).F l=some more):rowsOk r s (n+((s.take i.toNat).flatMap (rowsI r s ids l)).length) (ids++[(List.getD s i.toNat zItem).Id]) more where
 le:=by rw[zce];simp only[zbq,zbo];omega
 three:=h.three
 pats:=h.pats
 args:=h.args
 items:=h.items
 binds:=by
  have h1:=matchP_len hm
  have h2:=h.args _ (posR_mem hk)
  have h3:=h.binds
  rw[zce];simp only[zbq,zbo];omega
 room:=by
  have h1:=h.room
  rw[rowsAt_step s l hk] at h1
  have h2:=flatM_le (rowsI r s ids l) s (i+1).toNat
  rw[flatStep _ s zItem h0 hi,zce] at h2
  have e:rowsI r s ids l (List.getD s i.toNat zItem)=rowsAt r s (ids++[(List.getD s i.toNat zItem).Id]) more:=by simp only[rowsI,hm]
  rw[e] at h2;omega
theorem outMs{a b:List DMatch}(h:a=b):asD [DV.box [.sl .eMatch a]]=asD [DV.box [.sl .eMatch b]]:=by subst h;rfl
theorem rowsI_some{r:DRule}{s:List DItem}{ids:List Int}{l more:List DBind}{x:DItem}(hm:matchP (List.getD (posR r) ids.length zPat) x.F l=some more):rowsI r s ids l x=rowsAt r s (ids++[x.Id]) more:=by simp only[rowsI,hm]
theorem rowsI_none{r:DRule}{s:List DItem}{ids:List Int}{l:List DBind}{x:DItem}(hm:matchP (List.getD (posR r) ids.length zPat) x.F l=none):rowsI r s ids l x=[]:=by simp only[rowsI,hm]
def matchesR(r:DRule)(s:List DItem):List DMatch:=rowsAt r s [] []
def ruled(i:Int)(m:DMatch):DMatch:=⟨i,m.Ids,m.Binds⟩
def allN(rs:List DRule)(s:List DItem)(n:Nat):List DMatch:=(List.range n).flatMap fun i=>(matchesR (List.getD rs i zRule) s).map (ruled i)
def allM(rs:List DRule)(s:List DItem):List DMatch:=allN rs s rs.length
theorem allN_step(rs:List DRule)(s:List DItem){i:Int}(h0:0≤i):allN rs s (i+1).toNat=allN rs s i.toNat++(matchesR (List.getD rs i.toNat zRule) s).map (ruled i):=by
 have e:(i+1).toNat=i.toNat+1:=by omega
 have e2:((i.toNat:Nat):Int)=i:=by omega
 rw[e]
 simp only[allN,List.range_succ,zep,zbm,zen,zch,e2]
structure smallR(r:DRule):Prop where
 three:posN r.Pats≤3
 pats:r.Pats.length≤6
 args:∀p,p∈r.Pats→p.Args.length≤5
def firstP(r:DRule):Prop:=∀k,k<posN r.Pats→List.getD r.Pats k zPat=List.getD (posR r) k zPat
theorem matches_ok{r:DRule}{s:List DItem}(h:smallR r)(hs:s.length≤40):rowsOk r s 0 [] [] where
 le:=Nat.zero_le _
 three:=h.three
 pats:=h.pats
 args:=h.args
 items:=hs
 binds:=Nat.zero_le _
 room:=by
  have h1:=rowsR_len r s (posR r) [] []
  have h2:(posR r).length≤3:=h.three
  have h3:s.length^(posR r).length≤40^3:=zde (Nat.pow_le_pow_left hs _) (Nat.pow_le_pow_right (by omega) h2)
  show 0+(rowsR r s (posR r) [] []).length≤_
  have:(40:Nat)^3=64000:=rfl
  omega
theorem matches_len{r:DRule}{s:List DItem}(h:smallR r)(hs:s.length≤40):(matchesR r s).length≤64000:=by
 have h1:=rowsR_len r s (posR r) [] []
 have h2:(posR r).length≤3:=h.three
 have h3:s.length^(posR r).length≤40^3:=zde (Nat.pow_le_pow_left hs _) (Nat.pow_le_pow_right (by omega) h2)
 show(rowsR r s (posR r) [] []).length≤_
 have:(40:Nat)^3=64000:=rfl
 omega
theorem getD_in{α:Type}{l:List α}{z:α}{i:Nat}(h:i<l.length):List.getD l i z∈l:=by
 rw[zac,zad h];exact zda _
theorem allN_len{rs:List DRule}{s:List DItem}(h:∀r,r∈rs→smallR r)(hs:s.length≤40){n:Nat}(hn:n≤rs.length):(allN rs s n).length≤n*64000:=by
 have:=flatM_len (fun i:Nat=>(matchesR (List.getD rs i zRule) s).map (ruled i)) 64000 (List.range n) (fun x hx=>by
  rw[zco];exact matches_len (h _ (getD_in (by have:=zay.1 hx;omega))) hs)
 rwa[List.length_range] at this
theorem mod_self{α:Type}{l:List α}{k:Nat}(f:α→α){z:α}(h:k<l.length):List.getD (l.modify k f) k z=f (List.getD l k z):=by
 rw[zac,zac,zei,zad h];simp
theorem mod_ne{α:Type}{l:List α}{k j:Nat}(f:α→α){z:α}(h:k≠j):List.getD (l.modify k f) j z=List.getD l j z:=by
 rw[zac,zac,zei];simp[h]
theorem dead_step{dd:Nat→Bool}{k:Int}(h0:0≤k)(h:∀j:Nat,k≤(j:Int)→dd j=false):∀j:Nat,k+1≤(j:Int)→(Nat.beq j k.toNat||dd j)=false:=fun j hj=>by
 rw[h j (by omega),zeh,←zbj,zdn];omega
def Zk66:Con UU where
 α:=(List DMatch)×DRule×DStore×(List Int)×(List DBind)
 md:=[.box true,.ro,.ro,.ro,.ro]
 of:=fun|[.box [.sl .eMatch a0],.agg [.lit (.string a1),.lit (.int .i64 a2),.sl .ePat a3,.sl .eCond a4,.sl .eAct a5],.agg [.sl .eItem a6,.lit (.int .i64 a7)],.one (.sl .int a8),.one (.sl .eBind a9)]=>some (a0,⟨a1,a2,a3,a4,a5⟩,⟨a6,a7⟩,a8,a9)|_=>none
 ds:=fun(out,r,s,ids,l)=>[.box [.sl .eMatch out],.agg [.lit (.string r.Name),.lit (.int .i64 r.Sal),.sl .ePat r.Pats,.sl .eCond r.Conds,.sl .eAct r.Acts],.agg [.sl .eItem s.Items,.lit (.int .i64 s.Next)],.one (.sl .int ids),.one (.sl .eBind l)]
 pre:=fun(out,r,s,ids,l)=>[rowsOk r s.Items out.length ids l,firstP r]
 res:=fun(out,r,s,ids,l)=>⟨[],true,[.box [.sl .eMatch (out++rowsAt r s.Items ids l)]]⟩
 law:=by intro l x h;(try simp only at h);split at h<;>cases h;rfl
def Zi66_5(out:(List DMatch))(r:DRule)(s:DStore)(ids:(List Int))(l:(List DBind)):Int×(ByteArray×Int×List DPat×List DCond×List DAct×Unit)×(List DItem×Int×Unit)×(List DMatch×Unit)×Unit→Prop:=fun(i,b,g,o,_)=>b=(r.Name,r.Sal,r.Pats,r.Conds,r.Acts,())∧g=(s.Items,s.Next,())∧0≤i∧i≤s.Items.length∧o=(out++(s.Items.take i.toNat).flatMap (rowsI r s.Items ids l),())
def Zm66_5(out:(List DMatch))(r:DRule)(s:DStore)(ids:(List Int))(l:(List DBind)):Int×(ByteArray×Int×List DPat×List DCond×List DAct×Unit)×(List DItem×Int×Unit)×(List DMatch×Unit)×Unit→Nat:=fun(i,b,g,o,_)=>s.Items.length-i.toNat
def Za66:Zk66.α→Nat→Option (Ann UU):=fun(out,r,s,ids,l)=>annL [(5,annOf [.slot 10 (10,1024) (.lit (.int .i64)),.box 6 (6,1024) [.lit .str,.lit (.int .i64),.shr .ePat,.shr .eCond,.shr .eAct],.box 7 (7,1024) [.shr .eItem,.lit (.int .i64)],.box 0 (2000000,0) [.own .eMatch true]] (fun _=>Zi66_5 out r s ids l) (Zm66_5 out r s ids l))]
def Zy66:(List DMatch)×DRule×DStore×(List Int)×(List DBind)→Nat:=fun(out,r,s,ids,l)=>posN r.Pats-ids.length
def Zu66(rn:Nat):List (FuncId×Con UU):=(66,Zk66.below Zy66 rn)::us [Zh25,Zh97,Zh98,Zh99]
theorem Zo66:Holds EE (66,Zk66):=by
 refine holds_rec (k:=Zk66) func66 (by kernel_rfl) Zy66 (fun rn ih=> ?_)
 refine holds_of EE_ok func66 (Zk66.below Zy66 (rn+1)) (by kernel_rfl) (Zu66 rn) (all_cons ih (us_ok _)) Za66 (fun x hp hb=> ?_)
 obtain⟨out,r,s,ids,l⟩:=x
 have hrec:Zy66 (out,r,s,ids,l)<rn+1:=hp _ zab
 have hb_out:BdDV (U:=UU) (.box [.sl .eMatch out]):=hb _ (zab)
 have hl_out:out.length≤9223372036854775807:=Bd.len (U:=UU) (τ:=.eMatch) (xs:=out) (hb_out _ (by simp))
 have hb_r:BdDV (U:=UU) (.agg [.lit (.string r.Name),.lit (.int .i64 r.Sal),.sl .ePat r.Pats,.sl .eCond r.Conds,.sl .eAct r.Acts]):=hb _ (zaa _ (zab))
 have hl_r_Name:r.Name.size≤9223372036854775807:=Bd.str (hb_r _ (by simp))
 have hl_r_Pats:r.Pats.length≤9223372036854775807:=Bd.len (U:=UU) (τ:=.ePat) (xs:=r.Pats) (hb_r _ (by simp))
 have hl_r_Conds:r.Conds.length≤9223372036854775807:=Bd.len (U:=UU) (τ:=.eCond) (xs:=r.Conds) (hb_r _ (by simp))
 have hl_r_Acts:r.Acts.length≤9223372036854775807:=Bd.len (U:=UU) (τ:=.eAct) (xs:=r.Acts) (hb_r _ (by simp))
 have hb_s:BdDV (U:=UU) (.agg [.sl .eItem s.Items,.lit (.int .i64 s.Next)]):=hb _ (zaa _ (zaa _ (zab)))
 have hl_s_Items:s.Items.length≤9223372036854775807:=Bd.len (U:=UU) (τ:=.eItem) (xs:=s.Items) (hb_s _ (by simp))
 have hb_ids:BdDV (U:=UU) (.one (.sl .int ids)):=hb _ (zaa _ (zaa _ (zaa _ (zab))))
 have hl_ids:ids.length≤9223372036854775807:=Bd.len hb_ids
 have hb_l:BdDV (U:=UU) (.one (.sl .eBind l)):=hb _ (zaa _ (zaa _ (zaa _ (zaa _ (zab)))))
 have hl_l:l.length≤9223372036854775807:=Bd.len hb_l
 have hp0:rowsOk r s.Items out.length ids l:=hp _ (zaa _ (zab))
 have hp1:firstP r:=hp _ (zaa _ (zaa _ (zab)))
 clear hp hb
 apply @ve _ (let x1:List Int:=[]++ids;let x0:List DMatch:=[{Rule:=(0:Int),Ids:=x1,Binds:=[]++l:DMatch}];bif (ids.length:Int)==(↑(posN r.Pats):Int) then(∀(p:DPat),p∈r.Pats→l.length+p.Args.length≤(4294967295:Nat))∧bif !blockedR r s.Items l then bif holdAll r.Conds l then(0:Nat)+ids.length≤(4294967296:Nat)∧(0:Nat)+l.length≤(4294967296:Nat)∧out.length+x0.length≤(4294967296:Nat)∧(0:Nat)=(0:Nat)∧asD []=asD []∧asD [DV.box [CL .eMatch (out++x0)]]=asD [DV.box [CL .eMatch (out++rowsAt r s.Items ids l)]] else(0:Nat)=(0:Nat)∧asD []=asD []∧asD [DV.box [CL .eMatch out]]=asD [DV.box [CL .eMatch (out++rowsAt r s.Items ids l)]] else(0:Nat)=(0:Nat)∧asD []=asD []∧asD [DV.box [CL .eMatch out]]=asD [DV.box [CL .eMatch (out++rowsAt r s.Items ids l)]] else Zi66_5 out r s ids l ((0:Int),(r.Name,r.Sal,r.Pats,r.Conds,r.Acts,()),(s.Items,s.Next,()),(out,()),())∧∀(y:Int×(ByteArray×Int×List DPat×List DCond×List DAct×PUnit)×(List DItem×Int×PUnit)×(List DMatch×PUnit)×PUnit),let x2:DRule:={Name:=y.2.1.1,Sal:=y.2.1.2.1,Pats:=y.2.1.2.2.1,Conds:=y.2.1.2.2.2.1,Acts:=y.2.1.2.2.2.2.1:DRule};let x6:DItem:=List.getD y.2.2.1.1 y.1.toNat zItem;let x8:Nat:=y.2.2.1.1.length;let x9:DPat:=List.getD y.2.1.2.2.1 (Int.toNat (ids.length:Int)) zPat;let x3:List DBind:=Option.getD (matchP x9 x6.F l) l;let x5:List Int:=[x6.Id];let x7:Int:=(↑x8:Int);let x4:List Int:=x1++x5;Zi66_5 out r s ids l y→bif decide (y.1<x7) then(0:Int)≤(ids.length:Int)∧Int.toNat (ids.length:Int)<y.2.1.2.2.1.length∧(0:Int)≤y.1∧y.1.toNat<x8∧l.length+x9.Args.length≤(4294967295:Nat)∧bif Option.isSome (matchP x9 x6.F l) then(0:Nat)+ids.length≤(4294967296:Nat)∧(0:Int)≤y.1∧y.1.toNat<x8∧x1.length+x5.length≤(4294967296:Nat)∧Zy66 (y.2.2.2.1.1,x2,{Items:=y.2.2.1.1,Next:=y.2.2.1.2.1:DStore},x4,x3)<rn∧rowsOk x2 y.2.2.1.1 (y.2.2.2.1.1.length) x4 x3∧firstP x2∧Zi66_5 out r s ids l (IntKind.wrap IntKind.i64 (y.1+(1:Int)),(y.2.1.1,y.2.1.2.1,y.2.1.2.2.1,y.2.1.2.2.2.1,y.2.1.2.2.2.2.1,()),(y.2.2.1.1,y.2.2.1.2.1,()),(y.2.2.2.1.1++rowsAt x2 y.2.2.1.1 x4 x3,()),())∧Zm66_5 out r s ids l (IntKind.wrap IntKind.i64 (y.1+(1:Int)),(y.2.1.1,y.2.1.2.1,y.2.1.2.2.1,y.2.1.2.2.2.1,y.2.1.2.2.2.2.1,()),(y.2.2.1.1,y.2.2.1.2.1,()),(y.2.2.2.1.1++rowsAt x2 y.2.2.1.1 x4 x3,()),())<Zm66_5 out r s ids l y else Zi66_5 out r s ids l (IntKind.wrap IntKind.i64 (y.1+(1:Int)),(y.2.1.1,y.2.1.2.1,y.2.1.2.2.1,y.2.1.2.2.2.1,y.2.1.2.2.2.2.1,()),(y.2.2.1.1,y.2.2.1.2.1,()),(y.2.2.2.1.1,()),())∧Zm66_5 out r s ids l (IntKind.wrap IntKind.i64 (y.1+(1:Int)),(y.2.1.1,y.2.1.2.1,y.2.1.2.2.1,y.2.1.2.2.2.1,y.2.1.2.2.2.2.1,()),(y.2.2.1.1,y.2.2.1.2.1,()),(y.2.2.2.1.1,()),())<Zm66_5 out r s ids l y else(0:Nat)=(0:Nat)∧asD []=asD []∧asD [DV.box [CL .eMatch y.2.2.2.1.1]]=asD [DV.box [CL .eMatch (out++rowsAt r s.Items ids l)]]) (by kernel_rfl)
 dsimp only
 simp only[Zy66] at hrec
 have hle:=hp0.le
 have h3:=hp0.three
 have hpt:=hp0.pats
 have hbd:=hp0.binds
 have hA:∀p,p∈r.Pats→l.length+p.Args.length≤4294967295:=fun p hm=>by have:=hp0.args p hm;omega
 have hrm:=hp0.room
 have hpl:(posR r).length=posN r.Pats:=rfl
 have hpn:posN r.Pats≤r.Pats.length:=zdt _ _
 refine if_num (fun h=>⟨hA,?_⟩) (fun h=> ?_)
 ·have h:ids.length=posN r.Pats:=by omega
  have e:=rowsAt_end s.Items l h
  have q1:(0:Nat)+ids.length≤4294967296:=by omega
  have q2:(0:Nat)+l.length≤4294967296:=by omega
  refine if_not (fun g=>if_cond (fun g'=>⟨q1,q2,?_,rfl,by trivial,outMs ?_⟩) (fun g'=>⟨rfl,by trivial,outMs ?_⟩)) (fun g=>⟨rfl,by trivial,outMs ?_⟩)
  ·rw[e,g,g'] at hrm;simp at hrm;simp only[zbq,zbo];omega
  ·rw[e,g,g'];rfl
  ·rw[e,g,g'];simp
  ·rw[e,g];simp
 ·have h:ids.length<posN r.Pats:=by omega
  have e:=rowsAt_step s.Items l h
  refine⟨⟨rfl,rfl,by omega,by omega,by simp⟩,?_⟩
  rintro⟨i,⟨b1,b2,b3,b4,b5,⟨⟩⟩,⟨g1,g2,⟨⟩⟩,⟨o,⟨⟩⟩,⟨⟩⟩ ⟨hb,hg,h1,h2,ho⟩
  cases hb
  cases hg
  cases ho
  refine if_dec (fun hc=> ?_) (fun hc=>⟨by trivial,by trivial,outMs ?_⟩)
  ·have hc:i<s.Items.length:=hc
   have hs:=flatStep (rowsI r s.Items ids l) s.Items zItem h1 hc
   have hi:ids.length<(posR r).length:=h
   have hm:=hA _ (posR_mem h)
   have et:Int.toNat (ids.length:Int)=ids.length:=by omega
   have eP:List.getD r.Pats (Int.toNat (ids.length:Int)) zPat=List.getD (posR r) ids.length zPat:=by rw[et];exact hp1 _ h
   have q0:(0:Int)≤(ids.length:Int)∧Int.toNat (ids.length:Int)<r.Pats.length:=by omega
   have q1:(0:Int)≤i∧i.toNat<s.Items.length:=by omega
   have q2:(0:Nat)+ids.length≤4294967296:=by omega
   have q3:ids.length+1≤4294967296:=by omega
   refine⟨q0.1,q0.2,q1.1,q1.2,by rw[eP];exact hm,?_⟩
   simp only[eP]
   refine if_cond (fun g=> ?_) (fun g=> ?_)
   ·obtain⟨more,hM⟩:=zag.1 g
    have hst:=rowsOk_step hp0 h h1 hc hM
    rw[rowsI_some hM] at hs
    have hw:IntKind.wrap .i64 (i+1)=i+1:=wrap_i64 (by omega) (by omega)
    have hst':rowsOk r s.Items (out++(s.Items.take i.toNat).flatMap (rowsI r s.Items ids l)).length (ids++[(List.getD s.Items i.toNat zItem).Id]) ((matchP (List.getD (posR r) ids.length zPat) (List.getD s.Items i.toNat zItem).F l).getD l):=by rw[hM,zcj,zce];exact hst
    have hmu:posN r.Pats-(ids++[(List.getD s.Items i.toNat zItem).Id]).length<rn:=by rw[zce];simp only[zbq,zbo];omega
    have hI:Zi66_5 out r s ids l (IntKind.wrap .i64 (i+1),(r.Name,r.Sal,r.Pats,r.Conds,r.Acts,()),(s.Items,s.Next,()),((out++(s.Items.take i.toNat).flatMap (rowsI r s.Items ids l))++rowsAt r s.Items (ids++[(List.getD s.Items i.toNat zItem).Id]) ((matchP (List.getD (posR r) ids.length zPat) (List.getD s.Items i.toNat zItem).F l).getD l),()),()):=by
     rw[hw,hM,zcj]
     exact⟨rfl,rfl,by omega,by omega,by rw[hs,zbr]⟩
    have hd:s.Items.length-(IntKind.wrap .i64 (i+1)).toNat<s.Items.length-i.toNat:=by rw[hw];omega
    exact⟨q2,q1.1,q1.2,q3,hmu,hst',hp1,hI,hd⟩
   ·have hM:matchP (List.getD (posR r) ids.length zPat) (List.getD s.Items i.toNat zItem).F l=none:=Option.isNone_iff_eq_none.1 (by rw[←Option.not_isSome,show Option.isSome (matchP (List.getD (posR r) ids.length zPat) (List.getD s.Items i.toNat zItem).F l)=false from g];rfl)
    rw[rowsI_none hM,zch] at hs
    have hw:IntKind.wrap .i64 (i+1)=i+1:=wrap_i64 (by omega) (by omega)
    have hI:Zi66_5 out r s ids l (IntKind.wrap .i64 (i+1),(r.Name,r.Sal,r.Pats,r.Conds,r.Acts,()),(s.Items,s.Next,()),(out++(s.Items.take i.toNat).flatMap (rowsI r s.Items ids l),()),()):=by
     rw[hw];exact⟨rfl,rfl,by omega,by omega,by rw[hs]⟩
    have hd:s.Items.length-(IntKind.wrap .i64 (i+1)).toNat<s.Items.length-i.toNat:=by rw[hw];omega
    exact⟨hI,hd⟩
  ·have hc:¬i<(s.Items.length:Int):=hc
   rw[take_all s.Items (by omega),e]
def Zh66:HH:=⟨_,Zo66⟩
def Zk40:Con UU where
 α:=DRule×DStore
 md:=[.ro,.ro]
 of:=oC (oA .eRule) (o1 (oA .eStore))
 ds:=fun x=>[dA .eRule x.1,dA .eStore x.2]
 pre:=fun(r,s)=>[smallR r,s.Items.length≤40,firstP r]
 res:=fun(r,s)=>⟨[dL .eMatch (matchesR r s.Items)],true,[]⟩
 law:=lC (lA .eRule) (l1 (lA .eStore))
def Za40:Zk40.α→Nat→Option (Ann UU):=fun(r,s)=>annL []
def Zu40:=us [Zh66]
theorem Zo40:Holds EE (40,Zk40):=by
 refine holds_of EE_ok func40 Zk40 (by kernel_rfl) Zu40 (us_ok _) Za40 (fun x hp hb=> ?_)
 obtain⟨r,s⟩:=x
 have hz0:=bd_eRule (x:=r) (hb _ m0)
 have hl_r_Name:=hz0.1
 have hl_r_Pats:=hz0.2.1
 have hl_r_Conds:=hz0.2.2.1
 have hl_r_Acts:=hz0.2.2.2
 have hl_s_Items:=bd_eStore (x:=s) (hb _ m1)
 have hp0:smallR r:=hp _ m0
 have hp1:s.Items.length≤40:=hp _ m1
 have hp2:firstP r:=hp _ m2
 clear hp hb
 apply @ve _ (rowsOk r s.Items ((0:Nat)) [] []∧firstP r∧Lf [VL .eMatch ([]++rowsAt r s.Items [] [])] [VL .eMatch (matchesR r s.Items)]) (by kernel_rfl)
 exact⟨matches_ok hp0 hp1,hp2,Lf_rfl _⟩
def Zh40:HH:=⟨_,Zo40⟩
def Zk16:Con UU where
 α:=DDef×DStore
 md:=[.ro,.ro]
 of:=oC (oA .eDef) (o1 (oA .eStore))
 ds:=fun x=>[dA .eDef x.1,dA .eStore x.2]
 pre:=fun(d,s)=>[∀r,r∈d.Rules→smallR r,s.Items.length≤40∧d.Rules.length≤12,∀r,r∈d.Rules→firstP r]
 res:=fun(d,s)=>⟨[dL .eMatch (allM d.Rules s.Items)],true,[]⟩
 law:=lC (lA .eDef) (l1 (lA .eStore))
def Zi16_3(d:DDef)(s:DStore):List DMatch×Int×(ByteArray×List DRule×Unit)×(List DItem×Int×Unit)×Unit→Prop:=fun(o,i,b,g,_)=>b=(d.Name,d.Rules,())∧g=(s.Items,s.Next,())∧0≤i∧i≤d.Rules.length∧o=allN d.Rules s.Items i.toNat
def Zm16_3(d:DDef)(s:DStore):List DMatch×Int×(ByteArray×List DRule×Unit)×(List DItem×Int×Unit)×Unit→Nat:=fun(o,i,b,g,_)=>d.Rules.length-i.toNat
def Zi16_7(d:DDef)(s:DStore):List DMatch×Int×Int×(List DMatch×(Nat→Bool))×(ByteArray×List DRule×Unit)×(List DItem×Int×Unit)×Unit→List DMatch×Int×Int×(List DMatch×(Nat→Bool))×(ByteArray×List DRule×Unit)×(List DItem×Int×Unit)×Unit→Prop:=fun(o0,i0,k0,p0,b0,g0,_) (o,i,k,p,b,g,_)=>i=i0∧b=b0∧g=g0∧p.1.length=p0.1.length∧0≤k∧k≤p0.1.length∧(∀j:Nat,k≤(j:Int)→p.2 j=false∧List.getD p.1 j zMatch=List.getD p0.1 j zMatch)∧o=o0++(p0.1.take k.toNat).map (ruled i)
def Zm16_7(d:DDef)(s:DStore):List DMatch×Int×Int×(List DMatch×(Nat→Bool))×(ByteArray×List DRule×Unit)×(List DItem×Int×Unit)×Unit→Nat:=fun(o,i,k,p,b,g,_)=>p.1.length-k.toNat
def Za16:Zk16.α→Nat→Option (Ann UU):=fun(d,s)=>annL [(3,annOf [.slot 5 (5,1024) (.own .eMatch true),.slot 6 (6,1024) (.lit (.int .i64)),.box 2 (2,1024) [.lit .str,.shr .eRule],.box 3 (3,1024) [.shr .eItem,.lit (.int .i64)]] (fun _=>Zi16_3 d s) (Zm16_3 d s)),(7,annOf [.slot 5 (5,1024) (.own .eMatch true),.slot 6 (6,1024) (.lit (.int .i64)),.slot 8 (8,1024) (.lit (.int .i64)),.slot 7 (7,1024) (.part .eMatch),.box 2 (2,1024) [.lit .str,.shr .eRule],.box 3 (3,1024) [.shr .eItem,.lit (.int .i64)]] (Zi16_7 d s) (Zm16_7 d s))]
def Zu16:=us [Zh40]
theorem Zo16:Holds EE (16,Zk16):=by
 refine holds_of EE_ok func16 Zk16 (by kernel_rfl) Zu16 (us_ok _) Za16 (fun x hp hb=> ?_)
 obtain⟨d,s⟩:=x
 have hz0:=bd_eDef (x:=d) (hb _ m0)
 have hl_d_Name:=hz0.1
 have hl_d_Rules:=hz0.2
 have hl_s_Items:=bd_eStore (x:=s) (hb _ m1)
 have hp0:∀r,r∈d.Rules→smallR r:=hp _ m0
 have hp1:s.Items.length≤40∧d.Rules.length≤12:=hp _ m1
 have hp2:∀r,r∈d.Rules→firstP r:=hp _ m2
 clear hp hb
 apply @ve _ (Zi16_3 d s ([],(0:Int),(d.Name,d.Rules,()),(s.Items,s.Next,()),())∧∀(y:List DMatch×Int×(ByteArray×List DRule×PUnit)×(List DItem×Int×PUnit)×PUnit),let x2:Nat:=y.2.2.1.2.1.length;let x3:Nat:=y.2.1.toNat;let x0:DRule:=List.getD y.2.2.1.2.1 x3 zRule;let x1:Int:=(↑x2:Int);Zi16_3 d s y→bif decide (y.2.1<x1) then(0:Int)≤y.2.1∧x3<x2∧smallR x0∧y.2.2.2.1.1.length≤(40:Nat)∧firstP x0∧Zi16_7 d s (y.1,y.2.1,(0:Int),(matchesR x0 y.2.2.2.1.1,fun(x:Nat)=>false),(y.2.2.1.1,y.2.2.1.2.1,()),(y.2.2.2.1.1,y.2.2.2.1.2.1,()),()) (y.1,y.2.1,(0:Int),(matchesR x0 y.2.2.2.1.1,fun(x:Nat)=>false),(y.2.2.1.1,y.2.2.1.2.1,()),(y.2.2.2.1.1,y.2.2.2.1.2.1,()),())∧∀(y_1:List DMatch×Int×Int×(List DMatch×(Nat→Bool))×(ByteArray×List DRule×PUnit)×(List DItem×Int×PUnit)×PUnit),let x5:Nat:=y_1.2.2.1.toNat;let x7:Nat:=y_1.2.2.2.fst.1.length;let x4:List DMatch:=List.modify y_1.2.2.2.fst.1 x5 fun(x:DMatch)=>{Rule:=y_1.2.1,Ids:=x.Ids,Binds:=x.Binds:DMatch};let x6:Int:=(↑x7:Int);Zi16_7 d s (y.1,y.2.1,(0:Int),(matchesR x0 y.2.2.2.1.1,fun(x:Nat)=>false),(y.2.2.1.1,y.2.2.1.2.1,()),(y.2.2.2.1.1,y.2.2.2.1.2.1,()),()) y_1→bif decide (y_1.2.2.1<x6) then(0:Int)≤y_1.2.2.1∧x5<x7∧x5<x7∧y_1.2.2.2.fst.2 x5=false∧(0:Int)≤y_1.2.2.1∧x5<x4.length∧x5<x4.length∧y_1.2.2.2.fst.2 x5=false∧y_1.1.length+List.length [List.getD x4 x5 zMatch]≤(4294967296:Nat)∧Zi16_7 d s (y.1,y.2.1,(0:Int),(matchesR x0 y.2.2.2.1.1,fun(x:Nat)=>false),(y.2.2.1.1,y.2.2.1.2.1,()),(y.2.2.2.1.1,y.2.2.2.1.2.1,()),()) (y_1.1++[List.getD x4 x5 zMatch],y_1.2.1,IntKind.wrap IntKind.i64 (y_1.2.2.1+(1:Int)),(x4,fun(j:Nat)=>Nat.beq j x5||y_1.2.2.2.fst.2 j),(y_1.2.2.2.2.1.1,y_1.2.2.2.2.1.2.1,()),(y_1.2.2.2.2.2.1.1,y_1.2.2.2.2.2.1.2.1,()),())∧Zm16_7 d s (y_1.1++[List.getD x4 x5 zMatch],y_1.2.1,IntKind.wrap IntKind.i64 (y_1.2.2.1+(1:Int)),(x4,fun(j:Nat)=>Nat.beq j x5||y_1.2.2.2.fst.2 j),(y_1.2.2.2.2.1.1,y_1.2.2.2.2.1.2.1,()),(y_1.2.2.2.2.2.1.1,y_1.2.2.2.2.2.1.2.1,()),())<Zm16_7 d s y_1 else Zi16_3 d s (y_1.1,IntKind.wrap IntKind.i64 (y_1.2.1+(1:Int)),(y_1.2.2.2.2.1.1,y_1.2.2.2.2.1.2.1,()),(y_1.2.2.2.2.2.1.1,y_1.2.2.2.2.2.1.2.1,()),())∧Zm16_3 d s (y_1.1,IntKind.wrap IntKind.i64 (y_1.2.1+(1:Int)),(y_1.2.2.2.2.1.1,y_1.2.2.2.2.1.2.1,()),(y_1.2.2.2.2.2.1.1,y_1.2.2.2.2.2.1.2.1,()),())<Zm16_3 d s y else Lf [VL .eMatch y.1] [VL .eMatch (allM d.Rules s.Items)]) (by kernel_rfl)
 dsimp only
 obtain⟨hS,hD⟩:=hp1
 refine⟨⟨rfl,rfl,by omega,by omega,rfl⟩,?_⟩
 rintro⟨o,i,⟨b1,b2,⟨⟩⟩,⟨g1,g2,⟨⟩⟩,⟨⟩⟩ ⟨hb,hg,h1,h2,rfl⟩
 cases hb
 cases hg
 simp only
 refine if_dec (fun hc=> ?_) (fun hc=> ?_)
 ·have hm:List.getD d.Rules i.toNat zRule∈d.Rules:=getD_in (by omega)
  have hs:=hp0 _ hm
  have hl:=matches_len hs hS
  have hn:=allN_len hp0 hS (n:=i.toNat) (by omega)
  have hst:=allN_step d.Rules s.Items h1
  refine⟨by omega,by omega,hs,hS,hp2 _ hm,⟨rfl,rfl,rfl,rfl,by omega,by omega,fun _ _=>⟨rfl,rfl⟩,by simp⟩,?_⟩
  rintro⟨o',i',k,⟨xs,dd⟩,⟨b1,b2,⟨⟩⟩,⟨g1,g2,⟨⟩⟩,⟨⟩⟩ ⟨hi,hb,hg,hx,k1,k2,kd,ho⟩
  cases hb
  cases hg
  cases hi
  cases ho
  simp only at k2 kd hx⊢
  refine if_dec (fun hk=> ?_) (fun hk=> ?_)
  ·have ht:=take_step (matchesR (List.getD d.Rules i.toNat zRule) s.Items) zMatch k1 (by omega)
   have hd:=kd k.toNat (by omega)
   rw[wrap_i64 (n:=k+1) (by omega) (by omega)]
   refine⟨k1,by omega,by omega,hd.1,k1,by rw[zbf];omega,by rw[zbf];omega,hd.1,?_,⟨rfl,rfl,rfl,by rw[zbf];exact hx,by omega,by simp only;omega,fun j hj=>⟨dead_step k1 (fun j hj=>(kd j hj).1) j hj,?_⟩,?_⟩,by simp only[Zm16_7,zbf];omega⟩
   ·simp only[zce,zco,zaw,zbq,zbo];omega
   ·rw[mod_ne _ (by omega)];exact(kd j (by omega)).2
   ·rw[mod_self _ (by omega),hd.2]
    simp only[←ht,zef,zbr];rfl
  ·rw[take_all _ (by omega),←hst,wrap_i64 (n:=i+1) (by omega) (by omega)]
   exact⟨⟨rfl,rfl,by omega,by omega,rfl⟩,by simp only[Zm16_3];omega⟩
 ·have e:i.toNat=d.Rules.length:=by omega
  rw[e];exact Lf_rfl _
def Zh16:HH:=⟨_,Zo16⟩
theorem filter_take:∀(ps:List DPat),(∀i,i<ps.length→notAt ps i=decide (posN ps≤i))→∀k,k<posN ps→List.getD ps k zPat=List.getD (ps.filter fun p=> !p.Not) k zPat
 |[],_,k,hk=>by simp[posN] at hk
 |p::ps,h,k,hk=>by
  have h0:=h 0 (by simp)
  have e0:notAt (p::ps) 0=p.Not:=rfl
  rw[e0,posN_cons] at h0
  cases hp:p.Not with
  |true=>
   rw[hp] at h0
   have h0:=of_decide_eq_true h0.symm
   rw[posN_cons,hp] at hk
   simp only[if_true] at h0 hk;omega
  |false=>
   have ef:(p::ps).filter (fun p=> !p.Not)=p::ps.filter fun p=> !p.Not:=by rw[List.filter_cons,hp];rfl
   rw[ef]
   cases k with
   |zero=>rfl
   |succ k=>
    rw[posN_cons,hp] at hk
    refine filter_take ps (fun i hi=> ?_) k (by simp only[zbg,if_false] at hk;omega)
    have:=h (i+1) (by simpa using hi)
    rw[posN_cons,hp] at this
    show notAt ps i=_
    refine(show notAt ps i=notAt (p::ps) (i+1) from rfl).trans (this.trans ?_)
    rw[decide_eq_decide];simp only[zbg,if_false];omega
theorem rule_small{r:DRule}(h:ruleOk r=true):smallR r∧firstP r:=by
 simp only[ruleOk,zaf] at h
 have hp:patsOkI r.Pats=true:=by rw[patsOkI_eq];exact h.1.1.2
 simp only[patsOkI,zaf,decide_eq_true_eq,allI_all,patAtI,patOk,beq_iff_eq] at hp
 obtain⟨⟨h1,h2⟩,h3⟩:=hp
 refine⟨⟨h2.2,h1.2,fun p hp=> ?_⟩,fun k hk=>filter_take r.Pats (fun i hi=>(h3 i hi).2) k hk⟩
 obtain⟨j,hj,rfl⟩:=zbk hp
 have:=(h3 j hj).1.1.2
 rwa[zac,zad hj] at this
theorem def_small{d:DDef}(h:defOk d=true):(∀r,r∈d.Rules→smallR r∧firstP r)∧d.Rules.length≤12:=by
 simp only[defOk,zaf,decide_eq_true_eq,allI_all,defAtR] at h
 refine⟨fun r hr=> ?_,h.1.2.2⟩
 obtain⟨j,hj,rfl⟩:=zbk hr
 have:=(h.2 j hj).1
 rw[zac,zad hj] at this
 exact rule_small this
structure DCur where
 b:List Int
 i:Int
 h:Int
def mixB(h:Int)(x:Int):Int:=IntKind.wrap .i64 (((BitVec.ofInt (IntKind.bits .i64) (IntKind.wrap .i64 (IntKind.wrap .i64 (IntKind.wrap .i64 (h*137)+IntKind.wrap .i64 x)+11))&&&BitVec.ofInt (IntKind.bits .i64) 1073741823).toNat:Nat):Int)
def seedB(code:List Int):Int:=(code.take 4000).foldl mixB (354354+code.length)
def newCur(code:List Int):DCur:=⟨code,0,seedB code⟩
def nextH(h:Int):Int:=IntKind.wrap .i64 (IntKind.wrap .i64 (h*6364136223846793005)+1442695040888963407)
def and255(x:Int):Int:=IntKind.wrap .i64 (((BitVec.ofInt (IntKind.bits .i64) x&&&BitVec.ofInt (IntKind.bits .i64) 255).toNat:Nat):Int)
def mixX(h:Int):Int:=and255 (IntKind.wrap .i64 (((BitVec.ofInt (IntKind.bits .i64) (Int.fdiv h ((2:Int)^min (Int.toNat 33) (IntKind.bits .i64)))^^^BitVec.ofInt (IntKind.bits .i64) (Int.fdiv h ((2:Int)^min (Int.toNat 47) (IntKind.bits .i64)))).toNat:Nat):Int))
def byteV(c:DCur):Int:=if c.i<c.b.length then and255 (IntKind.wrap .i64 (mixX (nextH c.h)+IntKind.wrap .i64 (List.getD c.b c.i.toNat 0))) else mixX (nextH c.h)
def byteC(c:DCur):DCur:=⟨c.b,if c.i<c.b.length then c.i+1 else c.i,nextH c.h⟩
theorem and255_le(x:Int):0≤and255 x∧and255 x≤255:=by
 unfold and255
 have h:(BitVec.ofInt 64 x&&&BitVec.ofInt 64 255).toNat≤255:=by
  rw[BitVec.toNat_and]
  exact zde Nat.and_le_right (by decide)
 have h':(BitVec.ofInt (IntKind.bits .i64) x&&&BitVec.ofInt (IntKind.bits .i64) 255).toNat≤255:=h
 rw[wrap_i64 (by omega) (by omega)]
 omega
theorem byteV_le(c:DCur):0≤byteV c∧byteV c≤255:=by
 unfold byteV
 split
 ·exact and255_le _
 ·exact and255_le _
theorem byteC_i{c:DCur}(h:0≤c.i):0≤(byteC c).i:=by
 simp only[byteC];split<;>omega
def belowV(c:DCur)(n:Int):Int:=if n≤0 then 0 else if n≤256 then Int.tmod (byteV c) n else Int.tmod (byteV c*65536+byteV (byteC c)*256+byteV (byteC (byteC c))) n
def belowC(c:DCur)(n:Int):DCur:=if n≤0 then c else if n≤256 then byteC c else byteC (byteC (byteC c))
theorem belowC_i{c:DCur}(h:0≤c.i)(n:Int):0≤(belowC c n).i:=by
 unfold belowC
 split
 ·exact h
 ·split
  ·exact byteC_i h
  ·exact byteC_i (byteC_i (byteC_i h))
theorem belowV_lt{c:DCur}{n:Int}(h:0<n):0≤belowV c n∧belowV c n<n:=by
 have h1:=byteV_le c;have h2:=byteV_le (byteC c);have h3:=byteV_le (byteC (byteC c))
 unfold belowV
 rw[if_neg (by omega)]
 split
 ·rw[zbp (by omega)];exact⟨Int.emod_nonneg _ (by omega),Int.emod_lt_of_pos _ h⟩
 ·rw[zbp (by omega)];exact⟨Int.emod_nonneg _ (by omega),Int.emod_lt_of_pos _ h⟩
def Zk14:Con UU where
 α:=(List Int)
 md:=[.ro]
 of:=o1 (oL .byte)
 ds:=fun x=>[dL .byte x]
 pre:=fun code=>[code.length≤4294967296]
 res:=fun code=>⟨[.box [.sl .byte ((newCur code)).b,.lit (.int .i64 ((newCur code)).i),.lit (.int .i64 ((newCur code)).h)]],true,[]⟩
 law:=l1 (lL .byte)
def Zi14_3(code:(List Int)):Int×Int×Unit→Prop:=fun(h,i,_)=>0≤i∧i≤code.length∧i≤4000∧h=(code.take i.toNat).foldl mixB (354354+code.length)
def Zm14_3(code:(List Int)):Int×Int×Unit→Nat:=fun(h,i,_)=>code.length-i.toNat
def Za14:Zk14.α→Nat→Option (Ann UU):=fun code=>annL [(3,annOf [.slot 3 (3,1024) (.lit (.int .i64)),.slot 4 (4,1024) (.lit (.int .i64))] (fun _=>Zi14_3 code) (Zm14_3 code))]
def Zu14:List (FuncId×Con UU):=[]
theorem Zo14:Holds EE (14,Zk14):=by
 refine holds_of EE_ok func14 Zk14 (by kernel_rfl) Zu14 all_nil Za14 (fun(code:(List Int)) hp hb=> ?_)
 have hl_code:code.length≤9223372036854775807:=bdL (hb _ m0)
 have hp0:code.length≤4294967296:=hp _ m0
 clear hp hb
 apply @ve _ (Zi14_3 code (IntKind.wrap IntKind.i64 ((354354:Int)+(code.length:Int)),(0:Int),())∧∀(y:Int×Int×PUnit),let x0:Nat:=y.2.1.toNat;Zi14_3 code y→bif decide (y.2.1<(code.length:Int)) then bif decide (y.2.1<(4000:Int)) then(0:Int)≤y.2.1∧x0<code.length∧Zi14_3 code (IntKind.wrap IntKind.i64 (↑(BitVec.toNat (BitVec.ofInt (IntKind.bits IntKind.i64) (IntKind.wrap IntKind.i64 (IntKind.wrap IntKind.i64 (IntKind.wrap IntKind.i64 (y.1*(137:Int))+IntKind.wrap IntKind.i64 (List.getD code x0 (0:Int)))+(11:Int)))&&&BitVec.ofInt (IntKind.bits IntKind.i64) (1073741823:Int))):Int),IntKind.wrap IntKind.i64 (y.2.1+(1:Int)),())∧Zm14_3 code (IntKind.wrap IntKind.i64 (↑(BitVec.toNat (BitVec.ofInt (IntKind.bits IntKind.i64) (IntKind.wrap IntKind.i64 (IntKind.wrap IntKind.i64 (IntKind.wrap IntKind.i64 (y.1*(137:Int))+IntKind.wrap IntKind.i64 (List.getD code x0 (0:Int)))+(11:Int)))&&&BitVec.ofInt (IntKind.bits IntKind.i64) (1073741823:Int))):Int),IntKind.wrap IntKind.i64 (y.2.1+(1:Int)),())<Zm14_3 code y else Lf [DV.box [CL .byte code,CI (0:Int),CI y.1]] [DV.box [CL .byte (newCur code).b,CI ((newCur code).i),CI ((newCur code).h)]] else Lf [DV.box [CL .byte code,CI (0:Int),CI y.1]] [DV.box [CL .byte (newCur code).b,CI ((newCur code).i),CI ((newCur code).h)]]) (by kernel_rfl)
 dsimp only
 refine⟨⟨by omega,by omega,by omega,by rw[wrap_i64 (by omega) (by omega)];rfl⟩,?_⟩
 rintro⟨h,i,⟨⟩⟩ ⟨h1,h2,h3,rfl⟩
 simp only
 have hE:(i=code.length∨i=4000)→(code.take i.toNat).foldl mixB (354354+code.length)=(newCur code).h:=by
  intro hh
  show _=(code.take 4000).foldl mixB (354354+code.length)
  rcases hh with hh|hh
  ·rw[zcy (by omega),zcy (by omega)]
  ·rw[hh];rfl
 refine if_cond (fun hc=>if_cond (fun hd=> ?_) (fun hd=> ?_)) (fun hc=> ?_)
 ·have hc:=of_decide_eq_true hc;have hd:=of_decide_eq_true hd
  rw[wrap_i64 (n:=i+1) (by omega) (by omega)]
  refine⟨h1,by omega,⟨by omega,by omega,by omega,?_⟩,by simp only[Zm14_3];omega⟩
  rw[←take_step code 0 h1 (by omega),List.foldl_append]
  rfl
 ·have hc:=of_decide_eq_true hc;have hd:=of_decide_eq_false hd
  rw[hE (by omega)];exact Lf_rfl _
 ·have hc:=of_decide_eq_false hc
  rw[hE (by omega)];exact Lf_rfl _
def Zh14:HH:=⟨_,Zo14⟩
def Zk43:Con UU where
 α:=DCur
 md:=[.box false]
 of:=fun|[.box [.sl .byte a0,.lit (.int .i64 a1),.lit (.int .i64 a2)]]=>some ⟨a0,a1,a2⟩|_=>none
 ds:=fun c=>[.box [.sl .byte c.b,.lit (.int .i64 c.i),.lit (.int .i64 c.h)]]
 pre:=fun c=>[0≤c.i,c.b.length≤4294967296]
 res:=fun c=>⟨[.one (.lit (.int .i64 (byteV c)))],true,[.box [.sl .byte ((byteC c)).b,.lit (.int .i64 ((byteC c)).i),.lit (.int .i64 ((byteC c)).h)]]⟩
 law:=by intro l x h;(try simp only at h);split at h<;>cases h;rfl
def Za43:Zk43.α→Nat→Option (Ann UU):=fun c=>annL []
def Zu43:List (FuncId×Con UU):=[]
theorem Zo43:Holds EE (43,Zk43):=by
 refine holds_of EE_ok func43 Zk43 (by kernel_rfl) Zu43 all_nil Za43 (fun(c:DCur) hp hb=> ?_)
 have hb_c:BdDV (U:=UU) (.box [.sl .byte c.b,.lit (.int .i64 c.i),.lit (.int .i64 c.h)]):=hb _ (zab)
 have hl_c_b:c.b.length≤9223372036854775807:=Bd.len (U:=UU) (τ:=.byte) (xs:=c.b) (hb_c _ (by simp))
 have hp0:0≤c.i:=hp _ (zab)
 have hp1:c.b.length≤4294967296:=hp _ (zaa _ (zab))
 clear hp hb
 apply @ve _ (let x1:Int:=IntKind.wrap IntKind.i64 (IntKind.wrap IntKind.i64 (c.h*(6364136223846793005:Int))+(1442695040888963407:Int));let x0:Int:=IntKind.wrap IntKind.i64 (↑(BitVec.toNat (BitVec.ofInt (IntKind.bits IntKind.i64) (IntKind.wrap IntKind.i64 (↑(BitVec.toNat (BitVec.ofInt (IntKind.bits IntKind.i64) (Int.fdiv x1 ((2:Int)^min (Int.toNat (33:Int)) (IntKind.bits IntKind.i64)))^^^BitVec.ofInt (IntKind.bits IntKind.i64) (Int.fdiv x1 ((2:Int)^min (Int.toNat (47:Int)) (IntKind.bits IntKind.i64))))):Int))&&&BitVec.ofInt (IntKind.bits IntKind.i64) (255:Int))):Int);(0:Int)≤(33:Int)∧(0:Int)≤(47:Int)∧bif decide (c.i<(c.b.length:Int)) then(0:Int)≤c.i∧c.i.toNat<c.b.length∧(0:Nat)=(0:Nat)∧asD [VI (IntKind.wrap IntKind.i64 (↑(BitVec.toNat (BitVec.ofInt (IntKind.bits IntKind.i64) (IntKind.wrap IntKind.i64 (x0+IntKind.wrap IntKind.i64 (List.getD c.b c.i.toNat (0:Int))))&&&BitVec.ofInt (IntKind.bits IntKind.i64) (255:Int))):Int))]=asD [VI (byteV c)]∧asD [DV.box [CL .byte c.b,CI (IntKind.wrap IntKind.i64 (c.i+(1:Int))),CI x1]]=asD [DV.box [CL .byte (byteC c).b,CI ((byteC c).i),CI ((byteC c).h)]] else(0:Nat)=(0:Nat)∧asD [VI x0]=asD [VI (byteV c)]∧asD [DV.box [CL .byte c.b,CI c.i,CI x1]]=asD [DV.box [CL .byte (byteC c).b,CI ((byteC c).i),CI ((byteC c).h)]]) (by kernel_rfl)
 dsimp only
 refine⟨by omega,by omega,if_cond (fun h=> ?_) (fun h=> ?_)⟩
 ·have h:=of_decide_eq_true h
  have e1:byteV c=and255 (IntKind.wrap .i64 (mixX (nextH c.h)+IntKind.wrap .i64 (List.getD c.b c.i.toNat 0))):=if_pos h
  have e2:(byteC c).i=c.i+1:=if_pos h
  rw[e1,e2,wrap_i64 (n:=c.i+1) (by omega) (by omega)]
  exact⟨hp0,by omega,rfl,rfl,rfl⟩
 ·have h:=of_decide_eq_false h
  have e1:byteV c=mixX (nextH c.h):=if_neg h
  have e2:(byteC c).i=c.i:=if_neg h
  rw[e1,e2]
  exact⟨rfl,rfl,rfl⟩
def Zh43:HH:=⟨_,Zo43⟩
def Zk20:Con UU where
 α:=DCur×Int
 md:=[.box false,.ro]
 of:=fun|[.box [.sl .byte a0,.lit (.int .i64 a1),.lit (.int .i64 a2)],.one (.lit (.int .i64 a3))]=>some (⟨a0,a1,a2⟩,a3)|_=>none
 ds:=fun(c,n)=>[.box [.sl .byte c.b,.lit (.int .i64 c.i),.lit (.int .i64 c.h)],.one (.lit (.int .i64 n))]
 pre:=fun(c,n)=>[0≤c.i,c.b.length≤4294967296]
 res:=fun(c,n)=>⟨[.one (.lit (.int .i64 (belowV c n)))],true,[.box [.sl .byte ((belowC c n)).b,.lit (.int .i64 ((belowC c n)).i),.lit (.int .i64 ((belowC c n)).h)]]⟩
 law:=by intro l x h;(try simp only at h);split at h<;>cases h;rfl
def Za20:Zk20.α→Nat→Option (Ann UU):=fun(c,n)=>annL []
def Zu20:=us [Zh43]
theorem Zo20:Holds EE (20,Zk20):=by
 refine holds_of EE_ok func20 Zk20 (by kernel_rfl) Zu20 (us_ok _) Za20 (fun x hp hb=> ?_)
 obtain⟨c,n⟩:=x
 have hb_c:BdDV (U:=UU) (.box [.sl .byte c.b,.lit (.int .i64 c.i),.lit (.int .i64 c.h)]):=hb _ (zab)
 have hl_c_b:c.b.length≤9223372036854775807:=Bd.len (U:=UU) (τ:=.byte) (xs:=c.b) (hb_c _ (by simp))
 have hb_n:BdDV (U:=UU) (.one (.lit (.int .i64 n))):=hb _ (zaa _ (zab))
 have hl_n:=Bd.i64 hb_n
 have hp0:0≤c.i:=hp _ (zab)
 have hp1:c.b.length≤4294967296:=hp _ (zaa _ (zab))
 clear hp hb
 apply @ve _ (bif decide (n≤(0:Int)) then(0:Nat)=(0:Nat)∧asD [VI (0:Int)]=asD [VI (belowV c n)]∧asD [DV.box [CL .byte c.b,CI c.i,CI c.h]]=asD [DV.box [CL .byte (belowC c n).b,CI ((belowC c n).i),CI ((belowC c n).h)]] else bif decide (n≤(256:Int)) then(0:Int)≤c.i∧c.b.length≤(4294967296:Nat)∧n≠(0:Int)∧(0:Nat)=(0:Nat)∧asD [VI (Int.tmod (byteV c) n)]=asD [VI (belowV c n)]∧asD [DV.box [CL .byte (byteC c).b,CI ((byteC c).i),CI ((byteC c).h)]]=asD [DV.box [CL .byte (belowC c n).b,CI ((belowC c n).i),CI ((belowC c n).h)]] else(0:Int)≤c.i∧c.b.length≤(4294967296:Nat)∧(0:Int)≤(byteC c).i∧List.length (byteC c).b≤(4294967296:Nat)∧(0:Int)≤(byteC (byteC c)).i∧List.length (byteC (byteC c)).b≤(4294967296:Nat)∧n≠(0:Int)∧(0:Nat)=(0:Nat)∧asD [VI (Int.tmod (IntKind.wrap IntKind.i64 (IntKind.wrap IntKind.i64 (IntKind.wrap IntKind.i64 (byteV c*(65536:Int))+IntKind.wrap IntKind.i64 (byteV (byteC c)*(256:Int)))+byteV (byteC (byteC c)))) n)]=asD [VI (belowV c n)]∧asD [DV.box [CL .byte (byteC (byteC (byteC c))).b,CI ((byteC (byteC (byteC c))).i),CI ((byteC (byteC (byteC c))).h)]]=asD [DV.box [CL .byte (belowC c n).b,CI ((belowC c n).i),CI ((belowC c n).h)]]) (by kernel_rfl)
 have b1:=byteV_le c;have b2:=byteV_le (byteC c);have b3:=byteV_le (byteC (byteC c))
 refine if_cond (fun h=> ?_) (fun h=>if_cond (fun h2=> ?_) (fun h2=> ?_))
 ·have h:=of_decide_eq_true h
  have e1:belowV c n=0:=if_pos h
  have e2:belowC c n=c:=if_pos h
  rw[e1,e2];exact⟨rfl,rfl,rfl⟩
 ·have h:=of_decide_eq_false h;have h2:=of_decide_eq_true h2
  have e1:belowV c n=Int.tmod (byteV c) n:=by rw[belowV,if_neg h,if_pos h2]
  have e2:belowC c n=byteC c:=by rw[belowC,if_neg h,if_pos h2]
  rw[e1,e2];exact⟨hp0,hp1,by omega,rfl,rfl,rfl⟩
 ·have h:=of_decide_eq_false h;have h2:=of_decide_eq_false h2
  have e1:belowV c n=Int.tmod (byteV c*65536+byteV (byteC c)*256+byteV (byteC (byteC c))) n:=by rw[belowV,if_neg h,if_neg h2]
  have e2:belowC c n=byteC (byteC (byteC c)):=by rw[belowC,if_neg h,if_neg h2]
  have w1:IntKind.wrap .i64 (byteV c*65536)=byteV c*65536:=wrap_i64 (by omega) (by omega)
  have w2:IntKind.wrap .i64 (byteV (byteC c)*256)=byteV (byteC c)*256:=wrap_i64 (by omega) (by omega)
  rw[w1,w2,e1,e2,wrap_i64 (n:=byteV c*65536+byteV (byteC c)*256) (by omega) (by omega),wrap_i64 (n:=byteV c*65536+byteV (byteC c)*256+byteV (byteC (byteC c))) (by omega) (by omega)]
  exact⟨hp0,hp1,byteC_i hp0,hp1,byteC_i (byteC_i hp0),hp1,by omega,rfl,rfl,rfl⟩
def Zh20:HH:=⟨_,Zo20⟩
def Zk28:Con UU where
 α:=DCur×(List Int)
 md:=[.box false,.ro]
 of:=fun|[.box [.sl .byte a0,.lit (.int .i64 a1),.lit (.int .i64 a2)],.one (.sl .int a3)]=>some (⟨a0,a1,a2⟩,a3)|_=>none
 ds:=fun(c,list)=>[.box [.sl .byte c.b,.lit (.int .i64 c.i),.lit (.int .i64 c.h)],.one (.sl .int list)]
 pre:=fun(c,list)=>[0≤c.i,c.b.length≤4294967296,1≤list.length]
 res:=fun(c,list)=>⟨[.one (.lit (.int .i64 (List.getD list (belowV c list.length).toNat 0)))],true,[.box [.sl .byte ((belowC c list.length)).b,.lit (.int .i64 ((belowC c list.length)).i),.lit (.int .i64 ((belowC c list.length)).h)]]⟩
 law:=by intro l x h;(try simp only at h);split at h<;>cases h;rfl
def Za28:Zk28.α→Nat→Option (Ann UU):=fun(c,list)=>annL []
def Zu28:=us [Zh20]
theorem Zo28:Holds EE (28,Zk28):=by
 refine holds_of EE_ok func28 Zk28 (by kernel_rfl) Zu28 (us_ok _) Za28 (fun x hp hb=> ?_)
 obtain⟨c,list⟩:=x
 have hb_c:BdDV (U:=UU) (.box [.sl .byte c.b,.lit (.int .i64 c.i),.lit (.int .i64 c.h)]):=hb _ (zab)
 have hl_c_b:c.b.length≤9223372036854775807:=Bd.len (U:=UU) (τ:=.byte) (xs:=c.b) (hb_c _ (by simp))
 have hb_list:BdDV (U:=UU) (.one (.sl .int list)):=hb _ (zaa _ (zab))
 have hl_list:list.length≤9223372036854775807:=Bd.len hb_list
 have hp0:0≤c.i:=hp _ (zab)
 have hp1:c.b.length≤4294967296:=hp _ (zaa _ (zab))
 have hp2:1≤list.length:=hp _ (zaa _ (zaa _ (zab)))
 clear hp hb
 apply @ve _ (let x0:DCur:=belowC c (list.length:Int);(0:Int)≤c.i∧c.b.length≤(4294967296:Nat)∧(0:Int)≤belowV c (list.length:Int)∧Int.toNat (belowV c (list.length:Int))<list.length∧(0:Nat)=(0:Nat)∧asD [VI (List.getD list (Int.toNat (belowV c (list.length:Int))) (0:Int))]=asD [VI (List.getD list (Int.toNat (belowV c (list.length:Int))) (0:Int))]∧asD [DV.box [CL .byte x0.b,CI x0.i,CI x0.h]]=asD [DV.box [CL .byte x0.b,CI x0.i,CI x0.h]]) (by kernel_rfl)
 dsimp only
 have hb:=belowV_lt (c:=c) (n:=list.length) (by omega)
 exact⟨hp0,hp1,hb.1,by omega,rfl,rfl,rfl⟩
def Zh28:HH:=⟨_,Zo28⟩
def cOk(c:DCur):Prop:=0≤c.i∧c.b.length≤4294967296
theorem cOk_below{c:DCur}(h:cOk c)(n:Int):cOk (belowC c n):=by
 refine⟨belowC_i h.1 n,?_⟩
 have:(belowC c n).b=c.b:=by
  unfold belowC
  split
  ·rfl
  ·split<;>rfl
 rw[this];exact h.2
theorem cOk_new{code:List Int}(h:code.length≤4294967296):cOk (newCur code):=⟨Int.le_refl 0,h⟩
def onceV(c:DCur)(n:Int):Bool:=decide (belowV c n=0)
def strV(c:DCur)(l:List ByteArray):ByteArray:=List.getD l (belowV c l.length).toNat noBytes
def strC(c:DCur)(l:List ByteArray):DCur:=belowC c l.length
def intV(c:DCur)(l:List Int):Int:=List.getD l (belowV c l.length).toNat 0
def intC(c:DCur)(l:List Int):DCur:=belowC c l.length
theorem cOk_str{c:DCur}(h:cOk c)(l:List ByteArray):cOk (strC c l):=cOk_below h _
theorem cOk_int{c:DCur}(h:cOk c)(l:List Int):cOk (intC c l):=cOk_below h _
theorem strV_mem(c:DCur){l:List ByteArray}(h:0<l.length):strV c l∈l:=by
 have hb:=belowV_lt (c:=c) (n:=l.length) (by omega)
 have hi:(belowV c l.length).toNat<l.length:=by omega
 rw[strV,zac,zad hi]
 exact zda hi
theorem intV_mem(c:DCur){l:List Int}(h:0<l.length):intV c l∈l:=by
 have hb:=belowV_lt (c:=c) (n:=l.length) (by omega)
 have hi:(belowV c l.length).toNat<l.length:=by omega
 rw[intV,zac,zad hi]
 exact zda hi
theorem strV_all(c:DCur){l:List ByteArray}(p:ByteArray→Bool)(h0:0<l.length)(h:l.all p=true):p (strV c l)=true:=zcb.1 h _ (strV_mem c h0)
theorem intV_all(c:DCur){l:List Int}(p:Int→Bool)(h0:0<l.length)(h:l.all p=true):p (intV c l)=true:=zcb.1 h _ (intV_mem c h0)
def sLsmall:List ByteArray:=[⟨#[97]⟩,⟨#[98]⟩]
def smallV(c:DCur):DVal:=if onceV c 2 then⟨1,1+belowV (belowC c 2) 3,noBytes⟩ else⟨2,0,strV (belowC c 2) sLsmall⟩
def smallC(c:DCur):DCur:=if onceV c 2 then belowC (belowC c 2) 3 else strC (belowC c 2) sLsmall
theorem cOk_small{c:DCur}(h:cOk c):cOk (smallC c):=by
 unfold smallC;split
 ·exact cOk_below (cOk_below h _) _
 ·exact cOk_str (cOk_below h _) _
def iLval:List Int:=[0,1,2,3,-1,1000000000,-1000000000]
def sLval:List ByteArray:=[⟨#[]⟩,⟨#[97]⟩,⟨#[98]⟩,⟨#[112,97,105,100]⟩,⟨#[120,95,49]⟩]
def valV(c:DCur):DVal:=if onceV c 2 then⟨1,intV (belowC c 2) iLval,noBytes⟩ else⟨2,0,strV (belowC c 2) sLval⟩
def valC(c:DCur):DCur:=if onceV c 2 then intC (belowC c 2) iLval else strC (belowC c 2) sLval
theorem cOk_val{c:DCur}(h:cOk c):cOk (valC c):=by
 unfold valC;split
 ·exact cOk_int (cOk_below h _) _
 ·exact cOk_str (cOk_below h _) _
def iLany:List Int:=[1000000001,5]
def sLany:List ByteArray:=[⟨#[65]⟩,⟨#[97,32,98]⟩,⟨#[116,119,101,110,116,121,111,110,101,98,121,116,101,115,116,119,101,110,116,121,111]⟩,⟨#[120]⟩]
def anyvV(c:DCur):DVal:=let v:=valV c;let k:=belowV (valC c) 10;let d:=belowC (valC c) 10;if k=0 then⟨belowV d 4,v.N,v.S⟩ else if k=1 then⟨v.K,intV d iLany,v.S⟩ else if k=2 then⟨v.K,v.N,strV d sLany⟩ else v
def anyvC(c:DCur):DCur:=let k:=belowV (valC c) 10;let d:=belowC (valC c) 10;if k=0 then belowC d 4 else if k=1 then intC d iLany else if k=2 then strC d sLany else d
theorem cOk_anyv{c:DCur}(h:cOk c):cOk (anyvC c):=by
 have:=cOk_below (cOk_val h) 10
 simp only[anyvC];split
 ·exact cOk_below this _
 ·split
  ·exact cOk_int this _
  ·split
   ·exact cOk_str this _
   ·exact this
def sLkind:List ByteArray:=[⟨#[111,114,100,101,114]⟩,⟨#[112,97,105,100]⟩,⟨#[105,116,101,109]⟩,⟨#[111,114,100,101,114]⟩]
def bItem:ByteArray:=⟨#[105,116,101,109]⟩
def smallsL:Nat→List DVal→DCur→List DVal
 |0,l,_=>l
 |k+1,l,c=>smallsL k (l++[smallV c]) (smallC c)
def smallsC:Nat→DCur→DCur
 |0,c=>c
 |k+1,c=>smallsC k (smallC c)
theorem cOk_smalls:∀{k:Nat}{c:DCur},cOk c→cOk (smallsC k c)
 |0,_,h=>h
 |k+1,_,h=>cOk_smalls (k:=k) (cOk_small h)
def factN(c:DCur):Int:=if onceV (strC c sLkind) 12 then belowV (belowC (strC c sLkind) 12) 6 else if strV c sLkind=bItem then 2 else 1
def factD(c:DCur):DCur:=if onceV (strC c sLkind) 12 then belowC (belowC (strC c sLkind) 12) 6 else belowC (strC c sLkind) 12
def factV(c:DCur):DFact:=⟨strV c sLkind,smallsL (factN c).toNat [] (factD c)⟩
def factC(c:DCur):DCur:=smallsC (factN c).toNat (factD c)
theorem cOk_factD{c:DCur}(h:cOk c):cOk (factD c):=by
 have:=cOk_below (cOk_str h sLkind) 12
 unfold factD;split
 ·exact cOk_below this _
 ·exact this
theorem cOk_fact{c:DCur}(h:cOk c):cOk (factC c):=cOk_smalls (cOk_factD h)
theorem smallsL_len:∀(k:Nat)(l:List DVal)(c:DCur),(smallsL k l c).length=l.length+k
 |0,_,_=>rfl
 |k+1,l,c=>by rw[smallsL,smallsL_len k];simp only[zce,zbq,zbo];omega
theorem factV_len(c:DCur):(factV c).Fields.length=(factN c).toNat:=by
 show(smallsL _ _ _).length=_
 rw[smallsL_len];simp
theorem factN_le(c:DCur):0≤factN c∧factN c≤5:=by
 have:=belowV_lt (c:=belowC (strC c sLkind) 12) (n:=6) (by omega)
 unfold factN
 split
 ·omega
 ·split<;>omega
noncomputable def padL(l:List DVal)(c:DCur):List DVal×DCur:=if h:(l.length:Int)<5+belowV c 2 then padL (l++[valV (belowC c 2)]) (valC (belowC c 2)) else(l,belowC c 2)
termination_by 6-l.length
decreasing_by
 have:=belowV_lt (c:=c) (n:=2) (by omega)
 simp only[zce,zbq,zbo];omega
theorem padL_yes{l:List DVal}{c:DCur}(h:(l.length:Int)<5+belowV c 2):padL l c=padL (l++[valV (belowC c 2)]) (valC (belowC c 2)):=by rw[padL,dif_pos h]
theorem padL_no{l:List DVal}{c:DCur}(h:¬(l.length:Int)<5+belowV c 2):padL l c=(l,belowC c 2):=by rw[padL,dif_neg h]
theorem cOk_pad{l:List DVal}{c:DCur}(h:cOk c):cOk (padL l c).2:=by
 by_cases hl:(l.length:Int)<5+belowV c 2
 ·rw[padL_yes hl];exact cOk_pad (cOk_val (cOk_below h _))
 ·rw[padL_no hl];exact cOk_below h _
termination_by 6-l.length
decreasing_by
 have:=belowV_lt (c:=c) (n:=2) (by omega)
 simp only[zce,zbq,zbo];omega
def sLanyk:List ByteArray:=[⟨#[]⟩,⟨#[65]⟩,⟨#[116,104,105,114,116,101,101,110,98,121,116,101,115]⟩,⟨#[120]⟩]
noncomputable def anyF(c:DCur):DFact:=let f:=factV c;let k:=belowV (factC c) 10;let d:=belowC (factC c) 10;if k=0 then⟨strV d sLanyk,f.Fields⟩ else if k=1 then⟨f.Kind,f.Fields++[anyvV d]⟩ else if k=2 then⟨f.Kind,(padL f.Fields d).1⟩ else f
noncomputable def anyFC(c:DCur):DCur:=let f:=factV c;let k:=belowV (factC c) 10;let d:=belowC (factC c) 10;if k=0 then strC d sLanyk else if k=1 then anyvC d else if k=2 then(padL f.Fields d).2 else d
theorem cOk_anyF{c:DCur}(h:cOk c):cOk (anyFC c):=by
 have:=cOk_below (cOk_fact h) 10
 simp only[anyFC];split
 ·exact cOk_str this _
 ·split
  ·exact cOk_anyv this
  ·split
   ·exact cOk_pad this
   ·exact this
def Zk19:Con UU where
 α:=DCur×Int
 md:=[.box false,.ro]
 of:=fun|[.box [.sl .byte a0,.lit (.int .i64 a1),.lit (.int .i64 a2)],.one (.lit (.int .i64 a3))]=>some (⟨a0,a1,a2⟩,a3)|_=>none
 ds:=fun(c,n)=>[.box [.sl .byte c.b,.lit (.int .i64 c.i),.lit (.int .i64 c.h)],.one (.lit (.int .i64 n))]
 pre:=fun(c,n)=>[cOk c]
 res:=fun(c,n)=>⟨[.one (.lit (.bool (onceV c n)))],true,[.box [.sl .byte ((belowC c n)).b,.lit (.int .i64 ((belowC c n)).i),.lit (.int .i64 ((belowC c n)).h)]]⟩
 law:=by intro l x h;(try simp only at h);split at h<;>cases h;rfl
def Za19:Zk19.α→Nat→Option (Ann UU):=fun(c,n)=>annL []
def Zu19:=us [Zh20]
theorem Zo19:Holds EE (19,Zk19):=by
 refine holds_of EE_ok func19 Zk19 (by kernel_rfl) Zu19 (us_ok _) Za19 (fun x hp hb=> ?_)
 obtain⟨c,n⟩:=x
 have hb_c:BdDV (U:=UU) (.box [.sl .byte c.b,.lit (.int .i64 c.i),.lit (.int .i64 c.h)]):=hb _ (zab)
 have hl_c_b:c.b.length≤9223372036854775807:=Bd.len (U:=UU) (τ:=.byte) (xs:=c.b) (hb_c _ (by simp))
 have hb_n:BdDV (U:=UU) (.one (.lit (.int .i64 n))):=hb _ (zaa _ (zab))
 have hl_n:=Bd.i64 hb_n
 have hp0:cOk c:=hp _ (zab)
 clear hp hb
 apply @ve _ ((0:Int)≤c.i∧c.b.length≤(4294967296:Nat)∧(0:Nat)=(0:Nat)∧asD [VB (belowV c n==(0:Int))]=asD [VB (onceV c n)]∧asD [DV.box [CL .byte (belowC c n).b,CI ((belowC c n).i),CI ((belowC c n).h)]]=asD [DV.box [CL .byte (belowC c n).b,CI ((belowC c n).i),CI ((belowC c n).h)]]) (by kernel_rfl)
 exact⟨hp0.1,hp0.2,rfl,rfl,rfl⟩
def Zh19:HH:=⟨_,Zo19⟩
def Zk29:Con UU where
 α:=DCur×(List ByteArray)
 md:=[.box false,.ro]
 of:=fun|[.box [.sl .byte a0,.lit (.int .i64 a1),.lit (.int .i64 a2)],.one (.sl .str a3)]=>some (⟨a0,a1,a2⟩,a3)|_=>none
 ds:=fun(c,list)=>[.box [.sl .byte c.b,.lit (.int .i64 c.i),.lit (.int .i64 c.h)],.one (.sl .str list)]
 pre:=fun(c,list)=>[cOk c,1≤list.length]
 res:=fun(c,list)=>⟨[.one (.lit (.string (strV c list)))],true,[.box [.sl .byte ((strC c list)).b,.lit (.int .i64 ((strC c list)).i),.lit (.int .i64 ((strC c list)).h)]]⟩
 law:=by intro l x h;(try simp only at h);split at h<;>cases h;rfl
def Za29:Zk29.α→Nat→Option (Ann UU):=fun(c,list)=>annL []
def Zu29:=us [Zh20]
theorem Zo29:Holds EE (29,Zk29):=by
 refine holds_of EE_ok func29 Zk29 (by kernel_rfl) Zu29 (us_ok _) Za29 (fun x hp hb=> ?_)
 obtain⟨c,list⟩:=x
 have hb_c:BdDV (U:=UU) (.box [.sl .byte c.b,.lit (.int .i64 c.i),.lit (.int .i64 c.h)]):=hb _ (zab)
 have hl_c_b:c.b.length≤9223372036854775807:=Bd.len (U:=UU) (τ:=.byte) (xs:=c.b) (hb_c _ (by simp))
 have hb_list:BdDV (U:=UU) (.one (.sl .str list)):=hb _ (zaa _ (zab))
 have hl_list:list.length≤9223372036854775807:=Bd.len hb_list
 have hp0:cOk c:=hp _ (zab)
 have hp1:1≤list.length:=hp _ (zaa _ (zab))
 clear hp hb
 apply @ve _ (let x0:DCur:=belowC c (list.length:Int);(0:Int)≤c.i∧c.b.length≤(4294967296:Nat)∧(0:Int)≤belowV c (list.length:Int)∧Int.toNat (belowV c (list.length:Int))<list.length∧(0:Nat)=(0:Nat)∧asD [VS (List.getD list (Int.toNat (belowV c (list.length:Int))) noBytes)]=asD [VS (strV c list)]∧asD [DV.box [CL .byte x0.b,CI x0.i,CI x0.h]]=asD [DV.box [CL .byte (strC c list).b,CI ((strC c list).i),CI ((strC c list).h)]]) (by kernel_rfl)
 dsimp only
 have hb:=belowV_lt (c:=c) (n:=list.length) (by omega)
 exact⟨hp0.1,hp0.2,hb.1,by omega,rfl,rfl,rfl⟩
def Zh29:HH:=⟨_,Zo29⟩
def Zk55:Con UU where
 α:=DCur
 md:=[.box false]
 of:=fun|[.box [.sl .byte a0,.lit (.int .i64 a1),.lit (.int .i64 a2)]]=>some ⟨a0,a1,a2⟩|_=>none
 ds:=fun c=>[.box [.sl .byte c.b,.lit (.int .i64 c.i),.lit (.int .i64 c.h)]]
 pre:=fun c=>[cOk c]
 res:=fun c=>⟨[.agg [.lit (.int .i64 ((smallV c)).K),.lit (.int .i64 ((smallV c)).N),.lit (.string ((smallV c)).S)]],true,[.box [.sl .byte ((smallC c)).b,.lit (.int .i64 ((smallC c)).i),.lit (.int .i64 ((smallC c)).h)]]⟩
 law:=by intro l x h;(try simp only at h);split at h<;>cases h;rfl
def Za55:Zk55.α→Nat→Option (Ann UU):=fun c=>annL []
def Zu55:=us [Zh19,Zh20,Zh29]
theorem Zo55:Holds EE (55,Zk55):=by
 refine holds_of EE_ok func55 Zk55 (by kernel_rfl) Zu55 (us_ok _) Za55 (fun(c:DCur) hp hb=> ?_)
 have hb_c:BdDV (U:=UU) (.box [.sl .byte c.b,.lit (.int .i64 c.i),.lit (.int .i64 c.h)]):=hb _ (zab)
 have hl_c_b:c.b.length≤9223372036854775807:=Bd.len (U:=UU) (τ:=.byte) (xs:=c.b) (hb_c _ (by simp))
 have hp0:cOk c:=hp _ (zab)
 clear hp hb
 apply @ve _ (let x1:List ByteArray:=[{data:= #[(97:UInt8)]:ByteArray},{data:= #[(98:UInt8)]:ByteArray}];let x2:DCur:=belowC (belowC c (2:Int)) (3:Int);let x0:DCur:=strC (belowC c (2:Int)) x1;cOk c∧bif onceV c (2:Int) then(0:Int)≤(belowC c (2:Int)).i∧List.length (belowC c (2:Int)).b≤(4294967296:Nat)∧(0:Nat)=(0:Nat)∧asD [DV.agg [CI (1:Int),CI (IntKind.wrap IntKind.i64 ((1:Int)+belowV (belowC c (2:Int)) (3:Int))),CS ({data:= #[]:ByteArray})]]=asD [DV.agg [CI ((smallV c).K),CI ((smallV c).N),CS ((smallV c).S)]]∧asD [DV.box [CL .byte x2.b,CI x2.i,CI x2.h]]=asD [DV.box [CL .byte (smallC c).b,CI ((smallC c).i),CI ((smallC c).h)]] else cOk (belowC c (2:Int))∧(1:Nat)≤x1.length∧(0:Nat)=(0:Nat)∧asD [DV.agg [CI (2:Int),CI (0:Int),CS (strV (belowC c (2:Int)) x1)]]=asD [DV.agg [CI ((smallV c).K),CI ((smallV c).N),CS ((smallV c).S)]]∧asD [DV.box [CL .byte x0.b,CI x0.i,CI x0.h]]=asD [DV.box [CL .byte (smallC c).b,CI ((smallC c).i),CI ((smallC c).h)]]) (by kernel_rfl)
 dsimp only
 refine⟨hp0,if_cond (fun h=> ?_) (fun h=> ?_)⟩
 ·have hb:=belowV_lt (c:=belowC c 2) (n:=3) (by omega)
  have h2:=cOk_below hp0 2
  rw[wrap_i64 (by omega) (by omega)]
  rw[smallV,smallC,if_pos h,if_pos h];exact⟨h2.1,h2.2,rfl,rfl,rfl⟩
 ·have h2:=cOk_below hp0 2
  rw[smallV,smallC,if_neg (by simp[h]),if_neg (by simp[h])];exact⟨h2,by simp,rfl,rfl,rfl⟩
def Zh55:HH:=⟨_,Zo55⟩
def Zk54:Con UU where
 α:=DCur
 md:=[.box false]
 of:=fun|[.box [.sl .byte a0,.lit (.int .i64 a1),.lit (.int .i64 a2)]]=>some ⟨a0,a1,a2⟩|_=>none
 ds:=fun c=>[.box [.sl .byte c.b,.lit (.int .i64 c.i),.lit (.int .i64 c.h)]]
 pre:=fun c=>[cOk c]
 res:=fun c=>⟨[.agg [.lit (.int .i64 ((valV c)).K),.lit (.int .i64 ((valV c)).N),.lit (.string ((valV c)).S)]],true,[.box [.sl .byte ((valC c)).b,.lit (.int .i64 ((valC c)).i),.lit (.int .i64 ((valC c)).h)]]⟩
 law:=by intro l x h;(try simp only at h);split at h<;>cases h;rfl
def Za54:Zk54.α→Nat→Option (Ann UU):=fun c=>annL []
def Zu54:=us [Zh19,Zh28,Zh29]
theorem Zo54:Holds EE (54,Zk54):=by
 refine holds_of EE_ok func54 Zk54 (by kernel_rfl) Zu54 (us_ok _) Za54 (fun(c:DCur) hp hb=> ?_)
 have hb_c:BdDV (U:=UU) (.box [.sl .byte c.b,.lit (.int .i64 c.i),.lit (.int .i64 c.h)]):=hb _ (zab)
 have hl_c_b:c.b.length≤9223372036854775807:=Bd.len (U:=UU) (τ:=.byte) (xs:=c.b) (hb_c _ (by simp))
 have hp0:cOk c:=hp _ (zab)
 clear hp hb
 apply @ve _ (let x1:List ByteArray:=[{data:= #[]:ByteArray},{data:= #[(97:UInt8)]:ByteArray},{data:= #[(98:UInt8)]:ByteArray},{data:= #[(112:UInt8),(97:UInt8),(105:UInt8),(100:UInt8)]:ByteArray},{data:= #[(120:UInt8),(95:UInt8),(49:UInt8)]:ByteArray}];let x5:List Int:=[(0:Int),(1:Int),(2:Int),(3:Int),(-1:Int),(1000000000:Int),(-1000000000:Int)];let x0:DCur:=strC (belowC c (2:Int)) x1;let x4:Nat:=x5.length;let x3:Int:=(↑x4:Int);let x2:DCur:=belowC (belowC c (2:Int)) x3;cOk c∧bif onceV c (2:Int) then(0:Int)≤(belowC c (2:Int)).i∧List.length (belowC c (2:Int)).b≤(4294967296:Nat)∧(1:Nat)≤x4∧(0:Nat)=(0:Nat)∧asD [DV.agg [CI (1:Int),CI (List.getD x5 (Int.toNat (belowV (belowC c (2:Int)) x3)) (0:Int)),CS ({data:= #[]:ByteArray})]]=asD [DV.agg [CI ((valV c).K),CI ((valV c).N),CS ((valV c).S)]]∧asD [DV.box [CL .byte x2.b,CI x2.i,CI x2.h]]=asD [DV.box [CL .byte (valC c).b,CI ((valC c).i),CI ((valC c).h)]] else cOk (belowC c (2:Int))∧(1:Nat)≤x1.length∧(0:Nat)=(0:Nat)∧asD [DV.agg [CI (2:Int),CI (0:Int),CS (strV (belowC c (2:Int)) x1)]]=asD [DV.agg [CI ((valV c).K),CI ((valV c).N),CS ((valV c).S)]]∧asD [DV.box [CL .byte x0.b,CI x0.i,CI x0.h]]=asD [DV.box [CL .byte (valC c).b,CI ((valC c).i),CI ((valC c).h)]]) (by kernel_rfl)
 dsimp only
 have h2:=cOk_below hp0 2
 refine⟨hp0,if_cond (fun h=> ?_) (fun h=> ?_)⟩
 ·rw[valV,valC,if_pos h,if_pos h];exact⟨h2.1,h2.2,by simp,rfl,rfl,rfl⟩
 ·rw[valV,valC,if_neg (by simp[h]),if_neg (by simp[h])];exact⟨h2,by simp,rfl,rfl,rfl⟩
def Zh54:HH:=⟨_,Zo54⟩
def Zk53:Con UU where
 α:=DCur
 md:=[.box false]
 of:=fun|[.box [.sl .byte a0,.lit (.int .i64 a1),.lit (.int .i64 a2)]]=>some ⟨a0,a1,a2⟩|_=>none
 ds:=fun c=>[.box [.sl .byte c.b,.lit (.int .i64 c.i),.lit (.int .i64 c.h)]]
 pre:=fun c=>[cOk c]
 res:=fun c=>⟨[.agg [.lit (.int .i64 ((anyvV c)).K),.lit (.int .i64 ((anyvV c)).N),.lit (.string ((anyvV c)).S)]],true,[.box [.sl .byte ((anyvC c)).b,.lit (.int .i64 ((anyvC c)).i),.lit (.int .i64 ((anyvC c)).h)]]⟩
 law:=by intro l x h;(try simp only at h);split at h<;>cases h;rfl
def Za53:Zk53.α→Nat→Option (Ann UU):=fun c=>annL []
def Zu53:=us [Zh54,Zh20,Zh28,Zh29]
theorem Zo53:Holds EE (53,Zk53):=by
 refine holds_of EE_ok func53 Zk53 (by kernel_rfl) Zu53 (us_ok _) Za53 (fun(c:DCur) hp hb=> ?_)
 have hb_c:BdDV (U:=UU) (.box [.sl .byte c.b,.lit (.int .i64 c.i),.lit (.int .i64 c.h)]):=hb _ (zab)
 have hl_c_b:c.b.length≤9223372036854775807:=Bd.len (U:=UU) (τ:=.byte) (xs:=c.b) (hb_c _ (by simp))
 have hp0:cOk c:=hp _ (zab)
 clear hp hb
 apply @ve _ (let x1:List ByteArray:=[{data:= #[(65:UInt8)]:ByteArray},{data:= #[(97:UInt8),(32:UInt8),(98:UInt8)]:ByteArray},{data:= #[(116:UInt8),(119:UInt8),(101:UInt8),(110:UInt8),(116:UInt8),(121:UInt8),(111:UInt8),(110:UInt8),(101:UInt8),(98:UInt8),(121:UInt8),(116:UInt8),(101:UInt8),(115:UInt8),(116:UInt8),(119:UInt8),(101:UInt8),(110:UInt8),(116:UInt8),(121:UInt8),(111:UInt8)]:ByteArray},{data:= #[(120:UInt8)]:ByteArray}];let x2:DCur:=belowC (valC c) (10:Int);let x6:List Int:=[(1000000001:Int),(5:Int)];let x0:DCur:=strC x2 x1;let x5:Nat:=x6.length;let x4:Int:=(↑x5:Int);let x3:DCur:=belowC x2 x4;cOk c∧(0:Int)≤(valC c).i∧List.length (valC c).b≤(4294967296:Nat)∧bif belowV (valC c) (10:Int)==(0:Int) then(0:Int)≤x2.i∧x2.b.length≤(4294967296:Nat)∧(0:Nat)=(0:Nat)∧asD [DV.agg [CI (belowV x2 (4:Int)),CI ((valV c).N),CS ((valV c).S)]]=asD [DV.agg [CI ((anyvV c).K),CI ((anyvV c).N),CS ((anyvV c).S)]]∧asD [DV.box [CL .byte (belowC x2 (4:Int)).b,CI ((belowC x2 (4:Int)).i),CI ((belowC x2 (4:Int)).h)]]=asD [DV.box [CL .byte (anyvC c).b,CI ((anyvC c).i),CI ((anyvC c).h)]] else bif belowV (valC c) (10:Int)==(1:Int) then(0:Int)≤x2.i∧x2.b.length≤(4294967296:Nat)∧(1:Nat)≤x5∧(0:Nat)=(0:Nat)∧asD [DV.agg [CI ((valV c).K),CI (List.getD x6 (Int.toNat (belowV x2 x4)) (0:Int)),CS ((valV c).S)]]=asD [DV.agg [CI ((anyvV c).K),CI ((anyvV c).N),CS ((anyvV c).S)]]∧asD [DV.box [CL .byte x3.b,CI x3.i,CI x3.h]]=asD [DV.box [CL .byte (anyvC c).b,CI ((anyvC c).i),CI ((anyvC c).h)]] else bif belowV (valC c) (10:Int)==(2:Int) then cOk x2∧(1:Nat)≤x1.length∧(0:Nat)=(0:Nat)∧asD [DV.agg [CI ((valV c).K),CI ((valV c).N),CS (strV x2 x1)]]=asD [DV.agg [CI ((anyvV c).K),CI ((anyvV c).N),CS ((anyvV c).S)]]∧asD [DV.box [CL .byte x0.b,CI x0.i,CI x0.h]]=asD [DV.box [CL .byte (anyvC c).b,CI ((anyvC c).i),CI ((anyvC c).h)]] else(0:Nat)=(0:Nat)∧asD [DV.agg [CI ((valV c).K),CI ((valV c).N),CS ((valV c).S)]]=asD [DV.agg [CI ((anyvV c).K),CI ((anyvV c).N),CS ((anyvV c).S)]]∧asD [DV.box [CL .byte x2.b,CI x2.i,CI x2.h]]=asD [DV.box [CL .byte (anyvC c).b,CI ((anyvC c).i),CI ((anyvC c).h)]]) (by kernel_rfl)
 dsimp only
 have h2:=cOk_val hp0
 have h3:=cOk_below h2 10
 refine⟨hp0,h2.1,h2.2,if_cond (fun h=> ?_) (fun h=>if_cond (fun h'=> ?_) (fun h'=>if_cond (fun h''=> ?_) (fun h''=> ?_)))⟩
 ·have h:=eq_of_beq h
  have e1:anyvV c=⟨belowV (belowC (valC c) 10) 4,(valV c).N,(valV c).S⟩:=by simp only[anyvV,h,if_true]
  have e2:anyvC c=belowC (belowC (valC c) 10) 4:=by simp only[anyvC,h,if_true]
  rw[e1,e2];exact⟨h3.1,h3.2,rfl,rfl,rfl⟩
 ·have h:¬belowV (valC c) 10=0:=by simpa using h
  have h':=eq_of_beq h'
  have e1:anyvV c=⟨(valV c).K,intV (belowC (valC c) 10) iLany,(valV c).S⟩:=by simp only[anyvV];rw[if_neg h,if_pos h']
  have e2:anyvC c=intC (belowC (valC c) 10) iLany:=by simp only[anyvC];rw[if_neg h,if_pos h']
  rw[e1,e2];exact⟨h3.1,h3.2,by simp,rfl,rfl,rfl⟩
 ·have h:¬belowV (valC c) 10=0:=by simpa using h
  have h':¬belowV (valC c) 10=1:=by simpa using h'
  have h'':=eq_of_beq h''
  have e1:anyvV c=⟨(valV c).K,(valV c).N,strV (belowC (valC c) 10) sLany⟩:=by simp only[anyvV];rw[if_neg h,if_neg h',if_pos h'']
  have e2:anyvC c=strC (belowC (valC c) 10) sLany:=by simp only[anyvC];rw[if_neg h,if_neg h',if_pos h'']
  rw[e1,e2];exact⟨h3,by simp,rfl,rfl,rfl⟩
 ·have h:¬belowV (valC c) 10=0:=by simpa using h
  have h':¬belowV (valC c) 10=1:=by simpa using h'
  have h'':¬belowV (valC c) 10=2:=by simpa using h''
  have e1:anyvV c=valV c:=by simp only[anyvV];rw[if_neg h,if_neg h',if_neg h'']
  have e2:anyvC c=belowC (valC c) 10:=by simp only[anyvC];rw[if_neg h,if_neg h',if_neg h'']
  rw[e1,e2];exact⟨rfl,rfl,rfl⟩
def Zh53:HH:=⟨_,Zo53⟩
def Zk30:Con UU where
 α:=DCur
 md:=[.box false]
 of:=fun|[.box [.sl .byte a0,.lit (.int .i64 a1),.lit (.int .i64 a2)]]=>some ⟨a0,a1,a2⟩|_=>none
 ds:=fun c=>[.box [.sl .byte c.b,.lit (.int .i64 c.i),.lit (.int .i64 c.h)]]
 pre:=fun c=>[cOk c]
 res:=fun c=>⟨[.agg [.lit (.string ((factV c)).Kind),.sl .eVal ((factV c)).Fields]],true,[.box [.sl .byte ((factC c)).b,.lit (.int .i64 ((factC c)).i),.lit (.int .i64 ((factC c)).h)]]⟩
 law:=by intro l x h;(try simp only at h);split at h<;>cases h;rfl
def Zi30_8(c:DCur):Int×(ByteArray×List DVal×Unit)×(ByteArray×List DVal×Unit)×(List Int×Int×Int×Unit)×Unit→Prop:=fun(i,r,f,cu,_)=>0≤i∧i≤factN c∧f.1=strV c sLkind∧cOk ⟨cu.1,cu.2.1,cu.2.2.1⟩∧f.2.1.length≤i∧smallsL (factN c-i).toNat f.2.1 ⟨cu.1,cu.2.1,cu.2.2.1⟩=(factV c).Fields∧smallsC (factN c-i).toNat ⟨cu.1,cu.2.1,cu.2.2.1⟩=factC c
def Zm30_8(c:DCur):Int×(ByteArray×List DVal×Unit)×(ByteArray×List DVal×Unit)×(List Int×Int×Int×Unit)×Unit→Nat:=fun(i,r,f,cu,_)=>(factN c-i).toNat
def Za30:Zk30.α→Nat→Option (Ann UU):=fun c=>annL [(8,annOf [.slot 5 (5,1024) (.lit (.int .i64)),.box 2 (2,1024) [.lit .str,.own .eVal true],.box 3 (3,1024) [.lit .str,.own .eVal true],.box 0 (2000000,0) [.shr .byte,.lit (.int .i64),.lit (.int .i64)]] (fun _=>Zi30_8 c) (Zm30_8 c))]
def Zu30:=us [Zh29,Zh19,Zh20,Zh55]
theorem Zo30:Holds EE (30,Zk30):=by
 refine holds_of EE_ok func30 Zk30 (by kernel_rfl) Zu30 (us_ok _) Za30 (fun(c:DCur) hp hb=> ?_)
 have hb_c:BdDV (U:=UU) (.box [.sl .byte c.b,.lit (.int .i64 c.i),.lit (.int .i64 c.h)]):=hb _ (zab)
 have hl_c_b:c.b.length≤9223372036854775807:=Bd.len (U:=UU) (τ:=.byte) (xs:=c.b) (hb_c _ (by simp))
 have hp0:cOk c:=hp _ (zab)
 clear hp hb
 apply @ve _ (let x3:ByteArray:={data:= #[(111:UInt8),(114:UInt8),(100:UInt8),(101:UInt8),(114:UInt8)]:ByteArray};let x4:ByteArray:={data:= #[(105:UInt8),(116:UInt8),(101:UInt8),(109:UInt8)]:ByteArray};let x2:List ByteArray:=[x3,{data:= #[(112:UInt8),(97:UInt8),(105:UInt8),(100:UInt8)]:ByteArray},x4,x3];let x1:DCur:=strC c x2;let x0:DCur:=belowC x1 (12:Int);cOk c∧(1:Nat)≤x2.length∧bif ByteArray.toList (strV c x2)==ByteArray.toList x4 then cOk x1∧bif onceV x1 (12:Int) then(0:Int)≤x0.i∧x0.b.length≤(4294967296:Nat)∧Zi30_8 c ((0:Int),({data:= #[]:ByteArray},[],()),(strV c x2,[],()),((belowC x0 (6:Int)).b,(belowC x0 (6:Int)).i,(belowC x0 (6:Int)).h,()),())∧∀(y:Int×(ByteArray×List DVal×PUnit)×(ByteArray×List DVal×PUnit)×(List Int×Int×Int×PUnit)×PUnit),let x6:DCur:={b:=y.2.2.2.1.1,i:=y.2.2.2.1.2.1,h:=y.2.2.2.1.2.2.1:DCur};let x5:DCur:=smallC x6;Zi30_8 c y→bif decide (y.1<belowV x0 (6:Int)) then cOk x6∧y.2.2.1.2.1.length+List.length [smallV x6]≤(4294967296:Nat)∧Zi30_8 c (IntKind.wrap IntKind.i64 (y.1+(1:Int)),(y.2.1.1,y.2.1.2.1,()),(y.2.2.1.1,y.2.2.1.2.1++[smallV x6],()),(x5.b,x5.i,x5.h,()),())∧Zm30_8 c (IntKind.wrap IntKind.i64 (y.1+(1:Int)),(y.2.1.1,y.2.1.2.1,()),(y.2.2.1.1,y.2.2.1.2.1++[smallV x6],()),(x5.b,x5.i,x5.h,()),())<Zm30_8 c y else(0:Nat)=(0:Nat)∧asD [DV.agg [CS y.2.2.1.1,CL .eVal y.2.2.1.2.1]]=asD [DV.agg [CS ((factV c).Kind),CL .eVal (factV c).Fields]]∧asD [DV.box [CL .byte y.2.2.2.1.1,CI y.2.2.2.1.2.1,CI y.2.2.2.1.2.2.1]]=asD [DV.box [CL .byte (factC c).b,CI ((factC c).i),CI ((factC c).h)]] else Zi30_8 c ((0:Int),({data:= #[]:ByteArray},[],()),(strV c x2,[],()),(x0.b,x0.i,x0.h,()),())∧∀(y:Int×(ByteArray×List DVal×PUnit)×(ByteArray×List DVal×PUnit)×(List Int×Int×Int×PUnit)×PUnit),let x6:DCur:={b:=y.2.2.2.1.1,i:=y.2.2.2.1.2.1,h:=y.2.2.2.1.2.2.1:DCur};let x5:DCur:=smallC x6;Zi30_8 c y→bif decide (y.1<(2:Int)) then cOk x6∧y.2.2.1.2.1.length+List.length [smallV x6]≤(4294967296:Nat)∧Zi30_8 c (IntKind.wrap IntKind.i64 (y.1+(1:Int)),(y.2.1.1,y.2.1.2.1,()),(y.2.2.1.1,y.2.2.1.2.1++[smallV x6],()),(x5.b,x5.i,x5.h,()),())∧Zm30_8 c (IntKind.wrap IntKind.i64 (y.1+(1:Int)),(y.2.1.1,y.2.1.2.1,()),(y.2.2.1.1,y.2.2.1.2.1++[smallV x6],()),(x5.b,x5.i,x5.h,()),())<Zm30_8 c y else(0:Nat)=(0:Nat)∧asD [DV.agg [CS y.2.2.1.1,CL .eVal y.2.2.1.2.1]]=asD [DV.agg [CS ((factV c).Kind),CL .eVal (factV c).Fields]]∧asD [DV.box [CL .byte y.2.2.2.1.1,CI y.2.2.2.1.2.1,CI y.2.2.2.1.2.2.1]]=asD [DV.box [CL .byte (factC c).b,CI ((factC c).i),CI ((factC c).h)]] else cOk x1∧bif onceV x1 (12:Int) then(0:Int)≤x0.i∧x0.b.length≤(4294967296:Nat)∧Zi30_8 c ((0:Int),({data:= #[]:ByteArray},[],()),(strV c x2,[],()),((belowC x0 (6:Int)).b,(belowC x0 (6:Int)).i,(belowC x0 (6:Int)).h,()),())∧∀(y:Int×(ByteArray×List DVal×PUnit)×(ByteArray×List DVal×PUnit)×(List Int×Int×Int×PUnit)×PUnit),let x6:DCur:={b:=y.2.2.2.1.1,i:=y.2.2.2.1.2.1,h:=y.2.2.2.1.2.2.1:DCur};let x5:DCur:=smallC x6;Zi30_8 c y→bif decide (y.1<belowV x0 (6:Int)) then cOk x6∧y.2.2.1.2.1.length+List.length [smallV x6]≤(4294967296:Nat)∧Zi30_8 c (IntKind.wrap IntKind.i64 (y.1+(1:Int)),(y.2.1.1,y.2.1.2.1,()),(y.2.2.1.1,y.2.2.1.2.1++[smallV x6],()),(x5.b,x5.i,x5.h,()),())∧Zm30_8 c (IntKind.wrap IntKind.i64 (y.1+(1:Int)),(y.2.1.1,y.2.1.2.1,()),(y.2.2.1.1,y.2.2.1.2.1++[smallV x6],()),(x5.b,x5.i,x5.h,()),())<Zm30_8 c y else(0:Nat)=(0:Nat)∧asD [DV.agg [CS y.2.2.1.1,CL .eVal y.2.2.1.2.1]]=asD [DV.agg [CS ((factV c).Kind),CL .eVal (factV c).Fields]]∧asD [DV.box [CL .byte y.2.2.2.1.1,CI y.2.2.2.1.2.1,CI y.2.2.2.1.2.2.1]]=asD [DV.box [CL .byte (factC c).b,CI ((factC c).i),CI ((factC c).h)]] else Zi30_8 c ((0:Int),({data:= #[]:ByteArray},[],()),(strV c x2,[],()),(x0.b,x0.i,x0.h,()),())∧∀(y:Int×(ByteArray×List DVal×PUnit)×(ByteArray×List DVal×PUnit)×(List Int×Int×Int×PUnit)×PUnit),let x6:DCur:={b:=y.2.2.2.1.1,i:=y.2.2.2.1.2.1,h:=y.2.2.2.1.2.2.1:DCur};let x5:DCur:=smallC x6;Zi30_8 c y→bif decide (y.1<(1:Int)) then cOk x6∧y.2.2.1.2.1.length+List.length [smallV x6]≤(4294967296:Nat)∧Zi30_8 c (IntKind.wrap IntKind.i64 (y.1+(1:Int)),(y.2.1.1,y.2.1.2.1,()),(y.2.2.1.1,y.2.2.1.2.1++[smallV x6],()),(x5.b,x5.i,x5.h,()),())∧Zm30_8 c (IntKind.wrap IntKind.i64 (y.1+(1:Int)),(y.2.1.1,y.2.1.2.1,()),(y.2.2.1.1,y.2.2.1.2.1++[smallV x6],()),(x5.b,x5.i,x5.h,()),())<Zm30_8 c y else(0:Nat)=(0:Nat)∧asD [DV.agg [CS y.2.2.1.1,CL .eVal y.2.2.1.2.1]]=asD [DV.agg [CS ((factV c).Kind),CL .eVal (factV c).Fields]]∧asD [DV.box [CL .byte y.2.2.2.1.1,CI y.2.2.2.1.2.1,CI y.2.2.2.1.2.2.1]]=asD [DV.box [CL .byte (factC c).b,CI ((factC c).i),CI ((factC c).h)]]) (by kernel_rfl)
 dsimp only
 have hk:=cOk_str hp0 sLkind
 have hd:=cOk_factD hp0
 have hle:=factN_le c
 have fin:∀(n:Int)(d:DCur),factN c=n→factD c=d→
   Zi30_8 c ((0:Int),(noBytes,[],PUnit.unit),(strV c sLkind,[],PUnit.unit),(d.b,d.i,d.h,PUnit.unit),PUnit.unit):=by
  rintro n d rfl rfl
  exact⟨by omega,by omega,rfl,hd,by simp,by simp only[Int.sub_zero];rfl,by simp only[Int.sub_zero];rfl⟩
 refine⟨hp0,by simp,?_⟩
 refine if_cond (fun h=>⟨hk,if_cond (fun h'=>⟨(cOk_below hk 12).1,(cOk_below hk 12).2,?_⟩) (fun h'=> ?_)⟩) (fun h=>⟨hk,if_cond (fun h'=>⟨(cOk_below hk 12).1,(cOk_below hk 12).2,?_⟩) (fun h'=> ?_)⟩)
 ·have hN:factN c=belowV (belowC (strC c sLkind) 12) 6:=if_pos h'
  have hD:factD c=belowC (belowC (strC c sLkind) 12) 6:=if_pos h'
  refine⟨fin _ _ hN hD,?_⟩
  have hN':belowV (belowC (strC c sLkind) 12) 6=factN c:=hN.symm
  rintro⟨i,r,⟨fk,fl,⟨⟩⟩,⟨cb,ci,ch,⟨⟩⟩,⟨⟩⟩ ⟨g1,g2,g3,g4,g5,g6,g7⟩
  simp only at g1 g2 g3 g4 g5 g6 g7⊢
  refine if_cond (fun hc=> ?_) (fun hc=> ?_)
  ·have hc:i<factN c:=by rw[hN];exact of_decide_eq_true hc
   have e:(factN c-i).toNat=(factN c-(i+1)).toNat+1:=by omega
   rw[e] at g6 g7
   rw[wrap_i64 (by omega) (by omega)]
   exact⟨g4,by simp only[zbq,zbo];omega,⟨by omega,by omega,g3,cOk_small g4,by simp only[zce,zbq,zbo];omega,g6,g7⟩,by simp only[Zm30_8];omega⟩
  ·have hc:¬i<factN c:=by rw[hN];exact of_decide_eq_false hc
   have e:(factN c-i).toNat=0:=by omega
   rw[e] at g6 g7
   have g6:fl=(factV c).Fields:=g6
   have g7:(⟨cb,ci,ch⟩:DCur)=factC c:=g7
   have g3:fk=(factV c).Kind:=g3
   rw[←g7,←g6,←g3]
   exact⟨by trivial,rfl,rfl⟩
 ·have h:strV c sLkind=bItem:=by rw[toList_beq] at h;exact of_decide_eq_true h
  have hN:factN c=2:=by rw[factN,if_neg (by rw[show onceV (strC c sLkind) 12=false from h'];simp),if_pos h]
  have hD:factD c=belowC (strC c sLkind) 12:=if_neg (by rw[show onceV (strC c sLkind) 12=false from h'];simp)
  refine⟨fin _ _ hN hD,?_⟩
  rintro⟨i,r,⟨fk,fl,⟨⟩⟩,⟨cb,ci,ch,⟨⟩⟩,⟨⟩⟩ ⟨g1,g2,g3,g4,g5,g6,g7⟩
  simp only at g1 g2 g3 g4 g5 g6 g7⊢
  refine if_cond (fun hc=> ?_) (fun hc=> ?_)
  ·have hc:i<factN c:=by rw[hN];exact of_decide_eq_true hc
   have e:(factN c-i).toNat=(factN c-(i+1)).toNat+1:=by omega
   rw[e] at g6 g7
   rw[wrap_i64 (by omega) (by omega)]
   exact⟨g4,by simp only[zbq,zbo];omega,⟨by omega,by omega,g3,cOk_small g4,by simp only[zce,zbq,zbo];omega,g6,g7⟩,by simp only[Zm30_8];omega⟩
  ·have hc:¬i<factN c:=by rw[hN];exact of_decide_eq_false hc
   have e:(factN c-i).toNat=0:=by omega
   rw[e] at g6 g7
   have g6:fl=(factV c).Fields:=g6
   have g7:(⟨cb,ci,ch⟩:DCur)=factC c:=g7
   have g3:fk=(factV c).Kind:=g3
   rw[←g7,←g6,←g3]
   exact⟨by trivial,rfl,rfl⟩
 ·have hN:factN c=belowV (belowC (strC c sLkind) 12) 6:=if_pos h'
  have hD:factD c=belowC (belowC (strC c sLkind) 12) 6:=if_pos h'
  refine⟨fin _ _ hN hD,?_⟩
  have hN':belowV (belowC (strC c sLkind) 12) 6=factN c:=hN.symm
  rintro⟨i,r,⟨fk,fl,⟨⟩⟩,⟨cb,ci,ch,⟨⟩⟩,⟨⟩⟩ ⟨g1,g2,g3,g4,g5,g6,g7⟩
  simp only at g1 g2 g3 g4 g5 g6 g7⊢
  refine if_cond (fun hc=> ?_) (fun hc=> ?_)
  ·have hc:i<factN c:=by rw[hN];exact of_decide_eq_true hc
   have e:(factN c-i).toNat=(factN c-(i+1)).toNat+1:=by omega
   rw[e] at g6 g7
   rw[wrap_i64 (by omega) (by omega)]
   exact⟨g4,by simp only[zbq,zbo];omega,⟨by omega,by omega,g3,cOk_small g4,by simp only[zce,zbq,zbo];omega,g6,g7⟩,by simp only[Zm30_8];omega⟩
  ·have hc:¬i<factN c:=by rw[hN];exact of_decide_eq_false hc
   have e:(factN c-i).toNat=0:=by omega
   rw[e] at g6 g7
   have g6:fl=(factV c).Fields:=g6
   have g7:(⟨cb,ci,ch⟩:DCur)=factC c:=g7
   have g3:fk=(factV c).Kind:=g3
   rw[←g7,←g6,←g3]
   exact⟨by trivial,rfl,rfl⟩
 ·have h:¬strV c sLkind=bItem:=by rw[toList_beq] at h;exact of_decide_eq_false h
  have hN:factN c=1:=by rw[factN,if_neg (by rw[show onceV (strC c sLkind) 12=false from h'];simp),if_neg h]
  have hD:factD c=belowC (strC c sLkind) 12:=if_neg (by rw[show onceV (strC c sLkind) 12=false from h'];simp)
  refine⟨fin _ _ hN hD,?_⟩
  rintro⟨i,r,⟨fk,fl,⟨⟩⟩,⟨cb,ci,ch,⟨⟩⟩,⟨⟩⟩ ⟨g1,g2,g3,g4,g5,g6,g7⟩
  simp only at g1 g2 g3 g4 g5 g6 g7⊢
  refine if_cond (fun hc=> ?_) (fun hc=> ?_)
  ·have hc:i<factN c:=by rw[hN];exact of_decide_eq_true hc
   have e:(factN c-i).toNat=(factN c-(i+1)).toNat+1:=by omega
   rw[e] at g6 g7
   rw[wrap_i64 (by omega) (by omega)]
   exact⟨g4,by simp only[zbq,zbo];omega,⟨by omega,by omega,g3,cOk_small g4,by simp only[zce,zbq,zbo];omega,g6,g7⟩,by simp only[Zm30_8];omega⟩
  ·have hc:¬i<factN c:=by rw[hN];exact of_decide_eq_false hc
   have e:(factN c-i).toNat=0:=by omega
   rw[e] at g6 g7
   have g6:fl=(factV c).Fields:=g6
   have g7:(⟨cb,ci,ch⟩:DCur)=factC c:=g7
   have g3:fk=(factV c).Kind:=g3
   rw[←g7,←g6,←g3]
   exact⟨by trivial,rfl,rfl⟩
def Zh30:HH:=⟨_,Zo30⟩
def Zk27:Con UU where
 α:=DCur
 md:=[.box false]
 of:=fun|[.box [.sl .byte a0,.lit (.int .i64 a1),.lit (.int .i64 a2)]]=>some ⟨a0,a1,a2⟩|_=>none
 ds:=fun c=>[.box [.sl .byte c.b,.lit (.int .i64 c.i),.lit (.int .i64 c.h)]]
 pre:=fun c=>[cOk c]
 res:=fun c=>⟨[.agg [.lit (.string ((anyF c)).Kind),.sl .eVal ((anyF c)).Fields]],true,[.box [.sl .byte ((anyFC c)).b,.lit (.int .i64 ((anyFC c)).i),.lit (.int .i64 ((anyFC c)).h)]]⟩
 law:=by intro l x h;(try simp only at h);split at h<;>cases h;rfl
def Zi27_8(c:DCur):(ByteArray×List DVal×Unit)×(ByteArray×List DVal×Unit)×(List Int×Int×Int×Unit)×Unit→Prop:=fun(r,f,cu,_)=>f.1=(factV c).Kind∧cOk ⟨cu.1,cu.2.1,cu.2.2.1⟩∧padL f.2.1 ⟨cu.1,cu.2.1,cu.2.2.1⟩=padL (factV c).Fields (belowC (factC c) 10)
def Zm27_8(c:DCur):(ByteArray×List DVal×Unit)×(ByteArray×List DVal×Unit)×(List Int×Int×Int×Unit)×Unit→Nat:=fun(r,f,cu,_)=>6-f.2.1.length
def Za27:Zk27.α→Nat→Option (Ann UU):=fun c=>annL [(8,annOf [.box 2 (2,1024) [.lit .str,.own .eVal true],.box 3 (3,1024) [.lit .str,.own .eVal true],.box 0 (2000000,0) [.shr .byte,.lit (.int .i64),.lit (.int .i64)]] (fun _=>Zi27_8 c) (Zm27_8 c))]
def Zu27:=us [Zh30,Zh20,Zh29,Zh53,Zh54]
theorem Zo27:Holds EE (27,Zk27):=by
 refine holds_of EE_ok func27 Zk27 (by kernel_rfl) Zu27 (us_ok _) Za27 (fun(c:DCur) hp hb=> ?_)
 have hb_c:BdDV (U:=UU) (.box [.sl .byte c.b,.lit (.int .i64 c.i),.lit (.int .i64 c.h)]):=hb _ (zab)
 have hl_c_b:c.b.length≤9223372036854775807:=Bd.len (U:=UU) (τ:=.byte) (xs:=c.b) (hb_c _ (by simp))
 have hp0:cOk c:=hp _ (zab)
 clear hp hb
 apply @ve _ (let x1:List ByteArray:=[{data:= #[]:ByteArray},{data:= #[(65:UInt8)]:ByteArray},{data:= #[(116:UInt8),(104:UInt8),(105:UInt8),(114:UInt8),(116:UInt8),(101:UInt8),(101:UInt8),(110:UInt8),(98:UInt8),(121:UInt8),(116:UInt8),(101:UInt8),(115:UInt8)]:ByteArray},{data:= #[(120:UInt8)]:ByteArray}];let x2:DCur:=belowC (factC c) (10:Int);let x0:DCur:=strC x2 x1;cOk c∧(0:Int)≤(factC c).i∧List.length (factC c).b≤(4294967296:Nat)∧bif belowV (factC c) (10:Int)==(0:Int) then cOk x2∧(1:Nat)≤x1.length∧(0:Nat)=(0:Nat)∧asD [DV.agg [CS (strV x2 x1),CL .eVal (factV c).Fields]]=asD [DV.agg [CS ((anyF c).Kind),CL .eVal (anyF c).Fields]]∧asD [DV.box [CL .byte x0.b,CI x0.i,CI x0.h]]=asD [DV.box [CL .byte (anyFC c).b,CI ((anyFC c).i),CI ((anyFC c).h)]] else bif belowV (factC c) (10:Int)==(1:Int) then cOk x2∧List.length (factV c).Fields+List.length [anyvV x2]≤(4294967296:Nat)∧(0:Nat)=(0:Nat)∧asD [DV.agg [CS ((factV c).Kind),CL .eVal ((factV c).Fields++[anyvV x2])]]=asD [DV.agg [CS ((anyF c).Kind),CL .eVal (anyF c).Fields]]∧asD [DV.box [CL .byte (anyvC x2).b,CI ((anyvC x2).i),CI ((anyvC x2).h)]]=asD [DV.box [CL .byte (anyFC c).b,CI ((anyFC c).i),CI ((anyFC c).h)]] else bif belowV (factC c) (10:Int)==(2:Int) then Zi27_8 c (({data:= #[]:ByteArray},[],()),((factV c).Kind,(factV c).Fields,()),(x2.b,x2.i,x2.h,()),())∧∀(y:(ByteArray×List DVal×PUnit)×(ByteArray×List DVal×PUnit)×(List Int×Int×Int×PUnit)×PUnit),let x5:DCur:={b:=y.2.2.1.1,i:=y.2.2.1.2.1,h:=y.2.2.1.2.2.1:DCur};let x7:Nat:=y.2.1.2.1.length;let x3:DCur:=belowC x5 (2:Int);let x4:Int:=IntKind.wrap IntKind.i64 ((5:Int)+belowV x5 (2:Int));let x6:Int:=(↑x7:Int);Zi27_8 c y→(0:Int)≤y.2.2.1.2.1∧y.2.2.1.1.length≤(4294967296:Nat)∧bif decide (x6<x4) then cOk x3∧x7+List.length [valV x3]≤(4294967296:Nat)∧Zi27_8 c ((y.1.1,y.1.2.1,()),(y.2.1.1,y.2.1.2.1++[valV x3],()),((valC x3).b,(valC x3).i,(valC x3).h,()),())∧Zm27_8 c ((y.1.1,y.1.2.1,()),(y.2.1.1,y.2.1.2.1++[valV x3],()),((valC x3).b,(valC x3).i,(valC x3).h,()),())<Zm27_8 c y else(0:Nat)=(0:Nat)∧asD [DV.agg [CS y.2.1.1,CL .eVal y.2.1.2.1]]=asD [DV.agg [CS ((anyF c).Kind),CL .eVal (anyF c).Fields]]∧asD [DV.box [CL .byte x3.b,CI x3.i,CI x3.h]]=asD [DV.box [CL .byte (anyFC c).b,CI ((anyFC c).i),CI ((anyFC c).h)]] else(0:Nat)=(0:Nat)∧asD [DV.agg [CS ((factV c).Kind),CL .eVal (factV c).Fields]]=asD [DV.agg [CS ((anyF c).Kind),CL .eVal (anyF c).Fields]]∧asD [DV.box [CL .byte x2.b,CI x2.i,CI x2.h]]=asD [DV.box [CL .byte (anyFC c).b,CI ((anyFC c).i),CI ((anyFC c).h)]]) (by kernel_rfl)
 dsimp only
 have h2:=cOk_fact hp0
 have h3:=cOk_below h2 10
 have hle:=factN_le c
 have hl5:(factV c).Fields.length≤5:=by rw[factV_len];omega
 refine⟨hp0,h2.1,h2.2,if_cond (fun h=> ?_) (fun h=>if_cond (fun h'=> ?_) (fun h'=>if_cond (fun h''=> ?_) (fun h''=> ?_)))⟩
 ·have h:=eq_of_beq h
  have e1:anyF c=⟨strV (belowC (factC c) 10) sLanyk,(factV c).Fields⟩:=by simp only[anyF,h,if_true]
  have e2:anyFC c=strC (belowC (factC c) 10) sLanyk:=by simp only[anyFC,h,if_true]
  rw[e1,e2];exact⟨h3,by simp,rfl,rfl,rfl⟩
 ·have h:¬belowV (factC c) 10=0:=by simpa using h
  have h':=eq_of_beq h'
  have e1:anyF c=⟨(factV c).Kind,(factV c).Fields++[anyvV (belowC (factC c) 10)]⟩:=by simp only[anyF];rw[if_neg h,if_pos h']
  have e2:anyFC c=anyvC (belowC (factC c) 10):=by simp only[anyFC];rw[if_neg h,if_pos h']
  rw[e1,e2];exact⟨h3,by simp only[zbq,zbo];omega,rfl,rfl,rfl⟩
 ·have h:¬belowV (factC c) 10=0:=by simpa using h
  have h':¬belowV (factC c) 10=1:=by simpa using h'
  have h'':=eq_of_beq h''
  have e1:anyF c=⟨(factV c).Kind,(padL (factV c).Fields (belowC (factC c) 10)).1⟩:=by simp only[anyF];rw[if_neg h,if_neg h',if_pos h'']
  have e2:anyFC c=(padL (factV c).Fields (belowC (factC c) 10)).2:=by simp only[anyFC];rw[if_neg h,if_neg h',if_pos h'']
  rw[e1,e2]
  refine⟨⟨rfl,h3,rfl⟩,?_⟩
  rintro⟨r,⟨fk,fl,⟨⟩⟩,⟨cb,ci,ch,⟨⟩⟩,⟨⟩⟩ ⟨g1,g2,g3⟩
  simp only at g1 g2 g3⊢
  have hb:=belowV_lt (c:=⟨cb,ci,ch⟩) (n:=2) (by omega)
  rw[wrap_i64 (n:=5+belowV ⟨cb,ci,ch⟩ 2) (by omega) (by omega)]
  refine⟨g2.1,g2.2,if_cond (fun hc=> ?_) (fun hc=> ?_)⟩
  ·have hc:=of_decide_eq_true hc
   rw[padL_yes hc] at g3
   exact⟨cOk_below g2 2,by simp only[zbq,zbo];omega,⟨g1,cOk_val (cOk_below g2 2),g3⟩,by simp only[Zm27_8,zce,zbq,zbo];omega⟩
  ·have hc:=of_decide_eq_false hc
   rw[padL_no hc] at g3
   rw[←g3,←g1]
   exact⟨by trivial,rfl,rfl⟩
 ·have h:¬belowV (factC c) 10=0:=by simpa using h
  have h':¬belowV (factC c) 10=1:=by simpa using h'
  have h'':¬belowV (factC c) 10=2:=by simpa using h''
  have e1:anyF c=factV c:=by simp only[anyF];rw[if_neg h,if_neg h',if_neg h'']
  have e2:anyFC c=belowC (factC c) 10:=by simp only[anyFC];rw[if_neg h,if_neg h',if_neg h'']
  rw[e1,e2];exact⟨rfl,rfl,rfl⟩
def Zh27:HH:=⟨_,Zo27⟩
def Zk4:Con UU where
 α:=(List Int)
 md:=[.ro]
 of:=o1 (oL .byte)
 ds:=fun x=>[dL .byte x]
 pre:=fun _=>[]
 res:=fun code=>⟨[dO (decide (code.length>1048576))],true,[]⟩
 law:=l1 (lL .byte)
def Za4:Zk4.α→Nat→Option (Ann UU):=fun code=>annL []
def Zu4:List (FuncId×Con UU):=[]
theorem Zo4:Holds EE (4,Zk4):=by
 refine holds_of EE_ok func4 Zk4 (by kernel_rfl) Zu4 all_nil Za4 (fun(code:(List Int)) hp hb=> ?_)
 have hl_code:code.length≤9223372036854775807:=bdL (hb _ m0)
 clear hp hb
 apply @ve _ (Lb (decide ((code.length:Int)>(1048576:Int))) (decide (code.length>(1048576:Nat)))) (by kernel_rfl)
 exact Lf_b (decide_eq_decide.2 (by omega))
def Zh4:HH:=⟨_,Zo4⟩
theorem smallV_ok(c:DCur):valOk (smallV c)=true:=by
 unfold smallV;split
 ·have:=belowV_lt (c:=belowC c 2) (n:=3) (by omega)
  simp only[valOk,decide_true,cond_true,zdb]
  simp only[decide_eq_true_eq];omega
 ·have h:=strV_all (belowC c 2) (l:=sLsmall) (fun s=>decide (s.size≤20)&&wordS s) (by decide) (by rfl)
  simp only[valOk]
  simpa using h
theorem smallsL_all{p:DVal→Bool}(hp:∀c,p (smallV c)=true):∀(k:Nat)(l:List DVal)(c:DCur),l.all p=true→(smallsL k l c).all p=true
 |0,_,_,h=>h
 |k+1,l,c,h=>smallsL_all hp k _ _ (by rw[List.all_append,h];simp[hp])
theorem factV_ok(c:DCur):factOk (factV c)=true:=by
 have h1:=factV_len c
 have h2:=factN_le c
 have h3:nameOk (factV c).Kind=true:=strV_all c (l:=sLkind) nameOk (by decide) (by rfl)
 have h4:(factV c).Fields.all valOk=true:=smallsL_all smallV_ok _ _ _ rfl
 simp only[factOk,h3,h4,zdb,zck,decide_eq_true_eq]
 omega
def sLxyz:List ByteArray:=[⟨#[88]⟩,⟨#[89]⟩,⟨#[90]⟩,⟨#[88]⟩]
def sLxy:List ByteArray:=[⟨#[88]⟩,⟨#[89]⟩]
def argD(c:DCur):DArg:=if belowV c 6=0 then⟨3,noBytes,zVal⟩ else if belowV c 6=1 then⟨2,noBytes,smallV (belowC c 6)⟩ else⟨1,strV (belowC c 6) sLxyz,zVal⟩
def argDC(c:DCur):DCur:=if belowV c 6=0 then belowC c 6 else if belowV c 6=1 then smallC (belowC c 6) else strC (belowC c 6) sLxyz
theorem cOk_arg{c:DCur}(h:cOk c):cOk (argDC c):=by
 have:=cOk_below h 6
 unfold argDC;split
 ·exact this
 ·split
  ·exact cOk_small this
  ·exact cOk_str this _
def termD(c:DCur):DArg:=if onceV c 3=true then⟨2,noBytes,smallV (belowC c 3)⟩ else⟨1,strV (belowC c 3) sLxy,zVal⟩
def termDC(c:DCur):DCur:=if onceV c 3=true then smallC (belowC c 3) else strC (belowC c 3) sLxy
theorem cOk_term{c:DCur}(h:cOk c):cOk (termDC c):=by
 have:=cOk_below h 3
 unfold termDC;split
 ·exact cOk_small this
 ·exact cOk_str this _
def iterL{α:Type}(f:DCur→α)(g:DCur→DCur):Nat→List α→DCur→List α
 |0,l,_=>l
 |k+1,l,c=>iterL f g k (l++[f c]) (g c)
def iterC(g:DCur→DCur):Nat→DCur→DCur
 |0,c=>c
 |k+1,c=>iterC g k (g c)
theorem iterL_len{α:Type}(f:DCur→α)(g:DCur→DCur):∀(k:Nat)(l:List α)(c:DCur),(iterL f g k l c).length=l.length+k
 |0,_,_=>rfl
 |k+1,l,c=>by rw[iterL,iterL_len f g k];simp only[zce,zbq,zbo];omega
theorem iterL_all{α:Type}{f:DCur→α}{g:DCur→DCur}(p:α→Prop)(hp:∀c,p (f c)):∀(k:Nat)(l:List α)(c:DCur),(∀x,x∈l→p x)→∀x,x∈iterL f g k l c→p x
 |0,_,_,h=>h
 |k+1,l,c,h=>iterL_all p hp k _ _ fun x hx=>by
  rcases zao.1 hx with hx|hx
  ·exact h x hx
  ·rw[zau] at hx;subst hx;exact hp c
theorem cOk_iter{g:DCur→DCur}(hg:∀c,cOk c→cOk (g c)):∀{k:Nat}{c:DCur},cOk c→cOk (iterC g k c)
 |0,_,h=>h
 |k+1,_,h=>cOk_iter hg (k:=k) (hg _ h)
def patN(c:DCur):Int:=if strV c sLkind=bItem then 2 else 1
def patD(not:Bool)(c:DCur):DPat:=⟨strV c sLkind,iterL argD argDC (patN c).toNat [] (strC c sLkind),not⟩
def patDC(c:DCur):DCur:=iterC argDC (patN c).toNat (strC c sLkind)
theorem cOk_patD{c:DCur}(h:cOk c):cOk (patDC c):=cOk_iter (fun _=>cOk_arg) (cOk_str h _)
theorem patN_le(c:DCur):0≤patN c∧patN c≤2:=by unfold patN;split<;>omega
def condD(c:DCur):DCond:=⟨1+belowV c 3,termD (belowC c 3),termD (termDC (belowC c 3))⟩
def condDC(c:DCur):DCur:=termDC (termDC (belowC c 3))
theorem cOk_condD{c:DCur}(h:cOk c):cOk (condDC c):=cOk_term (cOk_term (cOk_below h _))
def sLop:List ByteArray:=[⟨#[43]⟩,⟨#[45]⟩]
def exprD(c:DCur):DExpr:=if onceV (termDC c) 4=true then⟨strV (belowC (termDC c) 4) sLop,termD c,termD (strC (belowC (termDC c) 4) sLop)⟩ else⟨noBytes,termD c,zArg⟩
def exprDC(c:DCur):DCur:=if onceV (termDC c) 4=true then termDC (strC (belowC (termDC c) 4) sLop) else belowC (termDC c) 4
theorem cOk_expr{c:DCur}(h:cOk c):cOk (exprDC c):=by
 have:=cOk_below (cOk_term h) 4
 unfold exprDC;split
 ·exact cOk_term (cOk_str this _)
 ·exact this
def iLact:List Int:=[1,1,2,3,3,4,5,6]
def sLname:List ByteArray:=[⟨#[111,114,100,101,114]⟩,⟨#[112,97,105,100]⟩,⟨#[105,116,101,109]⟩,⟨#[115,104,105,112]⟩,⟨#[99,104,97,114,103,101]⟩]
def iLtime:List Int:=[0,1,5,100000]
def sLundo:List ByteArray:=[⟨#[114,101,102,117,110,100]⟩,⟨#[99,97,110,99,101,108]⟩]
def actK(c:DCur):Int:=intV c iLact
def actName(c:DCur):ByteArray:=strV (intC c iLact) sLname
def actC2(c:DCur):DCur:=strC (intC c iLact) sLname
def actN(c:DCur):Int:=if actName c=bItem then 2 else 1
def actAs(c:DCur):List DExpr:=iterL exprD exprDC (actN c).toNat [] (actC2 c)
def actC3(c:DCur):DCur:=iterC exprDC (actN c).toNat (actC2 c)
def actC4(c:DCur):DCur:=if actK c=4 then intC (actC3 c) iLtime else actC3 c
def actT(c:DCur):Int:=if actK c=4 then intV (actC3 c) iLtime else 0
def actU(c:DCur):ByteArray:=if actK c=3∧onceV (actC4 c) 2=true then strV (belowC (actC4 c) 2) sLundo else noBytes
def actC5(c:DCur):DCur:=if actK c=3 then(if onceV (actC4 c) 2=true then strC (belowC (actC4 c) 2) sLundo else belowC (actC4 c) 2) else actC4 c
def actD(pats:Int)(c:DCur):DAct:=if actK c=2 then⟨actK c,noBytes,[],belowV (intC c iLact) pats,noBytes⟩ else if actK c=5∨actK c=6 then⟨actK c,noBytes,[],0,noBytes⟩ else⟨actK c,actName c,actAs c,actT c,actU c⟩
def actDC(pats:Int)(c:DCur):DCur:=if actK c=2 then belowC (intC c iLact) pats else if actK c=5∨actK c=6 then intC c iLact else actC5 c
theorem actN_le(c:DCur):0≤actN c∧actN c≤2:=by unfold actN;split<;>omega
theorem cOk_act2{c:DCur}(h:cOk c):cOk (actC2 c):=cOk_str (cOk_int h _) _
theorem cOk_act3{c:DCur}(h:cOk c):cOk (actC3 c):=cOk_iter (fun _=>cOk_expr) (cOk_act2 h)
theorem cOk_act4{c:DCur}(h:cOk c):cOk (actC4 c):=by
 unfold actC4;split
 ·exact cOk_int (cOk_act3 h) _
 ·exact cOk_act3 h
theorem cOk_actD{c:DCur}(pats:Int)(h:cOk c):cOk (actDC pats c):=by
 unfold actDC;split
 ·exact cOk_below (cOk_int h _) _
 ·split
  ·exact cOk_int h _
  ·unfold actC5;split
   ·split
    ·exact cOk_str (cOk_below (cOk_act4 h) _) _
    ·exact cOk_below (cOk_act4 h) _
   ·exact cOk_act4 h
theorem actAs_len(c:DCur):(actAs c).length≤2:=by
 have:=actN_le c
 rw[actAs,iterL_len];simp only[zbo];omega
theorem actD_args(pats:Int)(c:DCur):(actD pats c).Args.length≤2:=by
 have:=actAs_len c
 unfold actD;split
 ·simp
 ·split
  ·simp
  ·exact this
def fitT(vars:List ByteArray)(a:DArg):DArg:=if knownIn vars a=true then a else if vars.length=0 then⟨2,noBytes,⟨1,1,noBytes⟩⟩ else⟨1,List.getD vars 0 noBytes,zVal⟩
def fitC(vars:List ByteArray)(x:DCond):DCond:=⟨x.Op,fitT vars x.L,fitT vars x.R⟩
def fitE(vars:List ByteArray)(e:DExpr):DExpr:=⟨e.Op,fitT vars e.L,if e.Op=noBytes then e.R else fitT vars e.R⟩
def fitA(vars:List ByteArray)(a:DAct):DAct:=⟨a.Kind,a.Name,a.Args.map (fitE vars),a.N,a.Undo⟩
def iLsal:List Int:=[0,0,5,-5,100]
def ruC1(c:DCur):DCur:=intC c iLsal
def ruN(c:DCur):Int:=1+belowV (ruC1 c) 3
def ruC2(c:DCur):DCur:=belowC (ruC1 c) 3
def ruP1(c:DCur):List DPat:=iterL (patD false) patDC (ruN c).toNat [] (ruC2 c)
def ruC3(c:DCur):DCur:=iterC patDC (ruN c).toNat (ruC2 c)
def ruC4(c:DCur):DCur:=belowC (ruC3 c) 3
def ruPats(c:DCur):List DPat:=if onceV (ruC3 c) 3=true then ruP1 c++[patD true (ruC4 c)] else ruP1 c
def ruC5(c:DCur):DCur:=if onceV (ruC3 c) 3=true then patDC (ruC4 c) else ruC4 c
def ruVars(c:DCur):List ByteArray:=posVarsS (ruPats c)
def ruC6(c:DCur):DCur:=belowC (ruC5 c) 3
def ruConds(c:DCur):List DCond:=if onceV (ruC5 c) 3=true then[fitC (ruVars c) (condD (ruC6 c))] else[]
def ruC7(c:DCur):DCur:=if onceV (ruC5 c) 3=true then condDC (ruC6 c) else ruC6 c
def ruM(c:DCur):Int:=1+belowV (ruC7 c) 3
def ruC8(c:DCur):DCur:=belowC (ruC7 c) 3
def ruAct(c:DCur)(d:DCur):DAct:=fitA (ruVars c) (actD (posN (ruPats c)) d)
def ruActC(c:DCur)(d:DCur):DCur:=actDC (posN (ruPats c)) d
def ruActs(c:DCur):List DAct:=iterL (ruAct c) (ruActC c) (ruM c).toNat [] (ruC8 c)
def ruC9(c:DCur):DCur:=iterC (ruActC c) (ruM c).toNat (ruC8 c)
def ruleD(name:ByteArray)(c:DCur):DRule:=⟨name,intV c iLsal,ruPats c,ruConds c,ruActs c⟩
theorem cOk_ru2{c:DCur}(h:cOk c):cOk (ruC2 c):=cOk_below (cOk_int h _) _
theorem cOk_ru3{c:DCur}(h:cOk c):cOk (ruC3 c):=cOk_iter (fun _=>cOk_patD) (cOk_ru2 h)
theorem cOk_ru5{c:DCur}(h:cOk c):cOk (ruC5 c):=by
 unfold ruC5;split
 ·exact cOk_patD (cOk_below (cOk_ru3 h) _)
 ·exact cOk_below (cOk_ru3 h) _
theorem cOk_ru7{c:DCur}(h:cOk c):cOk (ruC7 c):=by
 unfold ruC7;split
 ·exact cOk_condD (cOk_below (cOk_ru5 h) _)
 ·exact cOk_below (cOk_ru5 h) _
theorem cOk_ru9{c:DCur}(h:cOk c):cOk (ruC9 c):=cOk_iter (fun _=>cOk_actD _) (cOk_below (cOk_ru7 h) _)
theorem ruN_le(c:DCur):1≤ruN c∧ruN c≤3:=by
 have:=belowV_lt (c:=ruC1 c) (n:=3) (by omega)
 unfold ruN;omega
theorem ruM_le(c:DCur):1≤ruM c∧ruM c≤3:=by
 have:=belowV_lt (c:=ruC7 c) (n:=3) (by omega)
 unfold ruM;omega
def sLrule:List ByteArray:=[⟨#[114,49]⟩,⟨#[114,50]⟩,⟨#[114,51]⟩,⟨#[114,52]⟩]
def sLdef:List ByteArray:=[⟨#[102,108,111,119]⟩,⟨#[115,104,105,112]⟩,⟨#[120]⟩]
def defL:Nat→Nat→List DRule→DCur→List DRule
 |0,_,l,_=>l
 |k+1,i,l,c=>if(i:Int)<1+belowV c 4 then defL k (i+1) (l++[ruleD (List.getD sLrule i noBytes) (belowC c 4)]) (ruC9 (belowC c 4)) else l
def defC:Nat→Nat→DCur→DCur
 |0,_,c=>belowC c 4
 |k+1,i,c=>if(i:Int)<1+belowV c 4 then defC k (i+1) (ruC9 (belowC c 4)) else belowC c 4
def defD(c:DCur):DDef:=⟨strV c sLdef,defL 4 0 [] (strC c sLdef)⟩
def defDC(c:DCur):DCur:=defC 4 0 (strC c sLdef)
theorem cOk_defC:∀{k i:Nat}{c:DCur},cOk c→cOk (defC k i c)
 |0,_,_,h=>cOk_below h _
 |k+1,i,c,h=>by
  unfold defC;split
  ·exact cOk_defC (k:=k) (cOk_ru9 (cOk_below h _))
  ·exact cOk_below h _
theorem cOk_defD{c:DCur}(h:cOk c):cOk (defDC c):=cOk_defC (cOk_str h _)
theorem LdA{a a':DArg}{d d':DCur}(h1:a=a')(h2:d=d'):asD [DV.agg [.lit (.int .i64 a.K),.lit (.string a.S),.lit (.int .i64 a.V.K),.lit (.int .i64 a.V.N),.lit (.string a.V.S)]]=asD [DV.agg [.lit (.int .i64 a'.K),.lit (.string a'.S),.lit (.int .i64 a'.V.K),.lit (.int .i64 a'.V.N),.lit (.string a'.V.S)]]∧asD [DV.box [.sl .byte d.b,.lit (.int .i64 d.i),.lit (.int .i64 d.h)]]=asD [DV.box [.sl .byte d'.b,.lit (.int .i64 d'.i),.lit (.int .i64 d'.h)]]:=by
 subst h1 h2;exact⟨rfl,rfl⟩
theorem LdP{a a':DPat}{d d':DCur}(h1:a=a')(h2:d=d'):asD [DV.agg [.lit (.string a.Kind),.sl .eArg a.Args,.lit (.bool a.Not)]]=asD [DV.agg [.lit (.string a'.Kind),.sl .eArg a'.Args,.lit (.bool a'.Not)]]∧asD [DV.box [.sl .byte d.b,.lit (.int .i64 d.i),.lit (.int .i64 d.h)]]=asD [DV.box [.sl .byte d'.b,.lit (.int .i64 d'.i),.lit (.int .i64 d'.h)]]:=by
 subst h1 h2;exact⟨rfl,rfl⟩
theorem LdE{a a':DExpr}{d d':DCur}(h1:a=a')(h2:d=d'):asD [DV.agg [.lit (.string a.Op),.lit (.int .i64 a.L.K),.lit (.string a.L.S),.lit (.int .i64 a.L.V.K),.lit (.int .i64 a.L.V.N),.lit (.string a.L.V.S),.lit (.int .i64 a.R.K),.lit (.string a.R.S),.lit (.int .i64 a.R.V.K),.lit (.int .i64 a.R.V.N),.lit (.string a.R.V.S)]]=asD [DV.agg [.lit (.string a'.Op),.lit (.int .i64 a'.L.K),.lit (.string a'.L.S),.lit (.int .i64 a'.L.V.K),.lit (.int .i64 a'.L.V.N),.lit (.string a'.L.V.S),.lit (.int .i64 a'.R.K),.lit (.string a'.R.S),.lit (.int .i64 a'.R.V.K),.lit (.int .i64 a'.R.V.N),.lit (.string a'.R.V.S)]]∧asD [DV.box [.sl .byte d.b,.lit (.int .i64 d.i),.lit (.int .i64 d.h)]]=asD [DV.box [.sl .byte d'.b,.lit (.int .i64 d'.i),.lit (.int .i64 d'.h)]]:=by
 subst h1 h2;exact⟨rfl,rfl⟩
theorem LdAct{a a':DAct}{d d':DCur}(h1:a=a')(h2:d=d'):asD [DV.agg [.lit (.int .i64 a.Kind),.lit (.string a.Name),.sl .eExpr a.Args,.lit (.int .i64 a.N),.lit (.string a.Undo)]]=asD [DV.agg [.lit (.int .i64 a'.Kind),.lit (.string a'.Name),.sl .eExpr a'.Args,.lit (.int .i64 a'.N),.lit (.string a'.Undo)]]∧asD [DV.box [.sl .byte d.b,.lit (.int .i64 d.i),.lit (.int .i64 d.h)]]=asD [DV.box [.sl .byte d'.b,.lit (.int .i64 d'.i),.lit (.int .i64 d'.h)]]:=by
 subst h1 h2;exact⟨rfl,rfl⟩
def Zk94:Con UU where
 α:=DVal
 md:=[.ro]
 of:=o1 (oA .eVal)
 ds:=fun x=>[dA .eVal x]
 pre:=fun _=>[]
 res:=fun v=>⟨[dA .eArg (⟨2,noBytes,v⟩:DArg)],true,[]⟩
 law:=l1 (lA .eVal)
def Za94:Zk94.α→Nat→Option (Ann UU):=fun v=>annL []
def Zu94:List (FuncId×Con UU):=[]
theorem Zo94:Holds EE (94,Zk94):=by
 refine holds_of EE_ok func94 Zk94 (by kernel_rfl) Zu94 all_nil Za94 (fun(v:DVal) hp hb=> ?_)
 have hl_v_S:=bd_eVal (x:=v) (hb _ m0)
 clear hp hb
 apply @ve _ (Lf [DV.agg [CI (2:Int),CS ({data:= #[]:ByteArray}),CI v.K,CI v.N,CS v.S]] [DV.agg [CI (2:Int),CS noBytes,CI v.K,CI v.N,CS v.S]]) (by kernel_rfl)
 exact Lf_rfl _
def Zh94:HH:=⟨_,Zo94⟩
def Zk95:Con UU where
 α:=ByteArray
 md:=[.ro]
 of:=o1 oS
 ds:=fun x=>[dS x]
 pre:=fun _=>[]
 res:=fun s=>⟨[dA .eArg (⟨1,s,zVal⟩:DArg)],true,[]⟩
 law:=l1 lS
def Za95:Zk95.α→Nat→Option (Ann UU):=fun s=>annL []
def Zu95:List (FuncId×Con UU):=[]
theorem Zo95:Holds EE (95,Zk95):=by
 refine holds_of EE_ok func95 Zk95 (by kernel_rfl) Zu95 all_nil Za95 (fun(s:ByteArray) hp hb=> ?_)
 have hl_s:=bdS (s:=s) (hb _ m0)
 clear hp hb
 apply @ve _ (Lf [DV.agg [CI (1:Int),CS s,CI (0:Int),CI (0:Int),CS ({data:= #[]:ByteArray})]] [DV.agg [CI (1:Int),CS s,CI zVal.K,CI zVal.N,CS zVal.S]]) (by kernel_rfl)
 exact Lf_rfl _
def Zh95:HH:=⟨_,Zo95⟩
def Zk89:Con UU where
 α:=DCur
 md:=[.box false]
 of:=fun|[.box [.sl .byte a0,.lit (.int .i64 a1),.lit (.int .i64 a2)]]=>some ⟨a0,a1,a2⟩|_=>none
 ds:=fun c=>[.box [.sl .byte c.b,.lit (.int .i64 c.i),.lit (.int .i64 c.h)]]
 pre:=fun c=>[cOk c]
 res:=fun c=>⟨[.agg [.lit (.int .i64 ((argD c)).K),.lit (.string ((argD c)).S),.lit (.int .i64 (((argD c)).V).K),.lit (.int .i64 (((argD c)).V).N),.lit (.string (((argD c)).V).S)]],true,[.box [.sl .byte ((argDC c)).b,.lit (.int .i64 ((argDC c)).i),.lit (.int .i64 ((argDC c)).h)]]⟩
 law:=by intro l x h;(try simp only at h);split at h<;>cases h;rfl
def Za89:Zk89.α→Nat→Option (Ann UU):=fun c=>annL []
def Zu89:=us [Zh20,Zh55,Zh29,Zh94,Zh95]
theorem Zo89:Holds EE (89,Zk89):=by
 refine holds_of EE_ok func89 Zk89 (by kernel_rfl) Zu89 (us_ok _) Za89 (fun(c:DCur) hp hb=> ?_)
 have hb_c:BdDV (U:=UU) (.box [.sl .byte c.b,.lit (.int .i64 c.i),.lit (.int .i64 c.h)]):=hb _ (zab)
 have hl_c_b:c.b.length≤9223372036854775807:=Bd.len (U:=UU) (τ:=.byte) (xs:=c.b) (hb_c _ (by simp))
 have hp0:cOk c:=hp _ (zab)
 clear hp hb
 apply @ve _ (let x1:List ByteArray:=[{data:= #[(88:UInt8)]:ByteArray},{data:= #[(89:UInt8)]:ByteArray},{data:= #[(90:UInt8)]:ByteArray},{data:= #[(88:UInt8)]:ByteArray}];let x0:DCur:=strC (belowC c (6:Int)) x1;(0:Int)≤c.i∧c.b.length≤(4294967296:Nat)∧bif belowV c (6:Int)==(0:Int) then(0:Nat)=(0:Nat)∧asD [DV.agg [CI (3:Int),CS ({data:= #[]:ByteArray}),CI (0:Int),CI (0:Int),CS ({data:= #[]:ByteArray})]]=asD [DV.agg [CI ((argD c).K),CS ((argD c).S),CI ((argD c).V.K),CI ((argD c).V.N),CS ((argD c).V.S)]]∧asD [DV.box [CL .byte (belowC c (6:Int)).b,CI ((belowC c (6:Int)).i),CI ((belowC c (6:Int)).h)]]=asD [DV.box [CL .byte (argDC c).b,CI ((argDC c).i),CI ((argDC c).h)]] else bif belowV c (6:Int)==(1:Int) then cOk (belowC c (6:Int))∧(0:Nat)=(0:Nat)∧asD [DV.agg [CI (2:Int),CS noBytes,CI ((smallV (belowC c (6:Int))).K),CI ((smallV (belowC c (6:Int))).N),CS ((smallV (belowC c (6:Int))).S)]]=asD [DV.agg [CI ((argD c).K),CS ((argD c).S),CI ((argD c).V.K),CI ((argD c).V.N),CS ((argD c).V.S)]]∧asD [DV.box [CL .byte (smallC (belowC c (6:Int))).b,CI ((smallC (belowC c (6:Int))).i),CI ((smallC (belowC c (6:Int))).h)]]=asD [DV.box [CL .byte (argDC c).b,CI ((argDC c).i),CI ((argDC c).h)]] else cOk (belowC c (6:Int))∧(1:Nat)≤x1.length∧(0:Nat)=(0:Nat)∧asD [DV.agg [CI (1:Int),CS (strV (belowC c (6:Int)) x1),CI zVal.K,CI zVal.N,CS zVal.S]]=asD [DV.agg [CI ((argD c).K),CS ((argD c).S),CI ((argD c).V.K),CI ((argD c).V.N),CS ((argD c).V.S)]]∧asD [DV.box [CL .byte x0.b,CI x0.i,CI x0.h]]=asD [DV.box [CL .byte (argDC c).b,CI ((argDC c).i),CI ((argDC c).h)]]) (by kernel_rfl)
 dsimp only
 have h6:=cOk_below hp0 6
 refine⟨hp0.1,hp0.2,if_num (fun h=>⟨by trivial,?_⟩) (fun h=>if_num (fun h'=>⟨h6,by trivial,?_⟩) (fun h'=>⟨h6,by simp,by trivial,?_⟩))⟩
 ·exact LdA (a:=⟨3,noBytes,zVal⟩) (d:=belowC c 6) (if_pos h).symm (if_pos h).symm
 ·exact LdA (a:=⟨2,noBytes,smallV (belowC c 6)⟩) (d:=smallC (belowC c 6)) ((if_neg h).trans (if_pos h')).symm ((if_neg h).trans (if_pos h')).symm
 ·exact LdA (a:=⟨1,strV (belowC c 6) sLxyz,zVal⟩) (d:=strC (belowC c 6) sLxyz) ((if_neg h).trans (if_neg h')).symm ((if_neg h).trans (if_neg h')).symm
def Zh89:HH:=⟨_,Zo89⟩
def Zk61:Con UU where
 α:=DCur×Bool
 md:=[.box false,.ro]
 of:=fun|[.box [.sl .byte a0,.lit (.int .i64 a1),.lit (.int .i64 a2)],.one (.lit (.bool a3))]=>some (⟨a0,a1,a2⟩,a3)|_=>none
 ds:=fun(c,not)=>[.box [.sl .byte c.b,.lit (.int .i64 c.i),.lit (.int .i64 c.h)],.one (.lit (.bool not))]
 pre:=fun(c,not)=>[cOk c]
 res:=fun(c,not)=>⟨[.agg [.lit (.string ((patD not c)).Kind),.sl .eArg ((patD not c)).Args,.lit (.bool ((patD not c)).Not)]],true,[.box [.sl .byte ((patDC c)).b,.lit (.int .i64 ((patDC c)).i),.lit (.int .i64 ((patDC c)).h)]]⟩
 law:=by intro l x h;(try simp only at h);split at h<;>cases h;rfl
def Zi61_6(c:DCur)(not:Bool):Int×(ByteArray×List DArg×Bool×Unit)×(ByteArray×List DArg×Bool×Unit)×(List Int×Int×Int×Unit)×Unit→Prop:=fun(i,r,p,cu,_)=>0≤i∧i≤patN c∧p.1=strV c sLkind∧p.2.2.1=not∧cOk ⟨cu.1,cu.2.1,cu.2.2.1⟩∧p.2.1.length≤i∧iterL argD argDC (patN c-i).toNat p.2.1 ⟨cu.1,cu.2.1,cu.2.2.1⟩=(patD not c).Args∧iterC argDC (patN c-i).toNat ⟨cu.1,cu.2.1,cu.2.2.1⟩=patDC c
def Zm61_6(c:DCur)(not:Bool):Int×(ByteArray×List DArg×Bool×Unit)×(ByteArray×List DArg×Bool×Unit)×(List Int×Int×Int×Unit)×Unit→Nat:=fun(i,r,p,cu,_)=>(patN c-i).toNat
def Za61:Zk61.α→Nat→Option (Ann UU):=fun(c,not)=>annL [(6,annOf [.slot 7 (7,1024) (.lit (.int .i64)),.box 4 (4,1024) [.lit .str,.own .eArg true,.lit .bool],.box 5 (5,1024) [.lit .str,.own .eArg true,.lit .bool],.box 0 (2000000,0) [.shr .byte,.lit (.int .i64),.lit (.int .i64)]] (fun _=>Zi61_6 c not) (Zm61_6 c not))]
def Zu61:=us [Zh29,Zh89]
theorem Zo61:Holds EE (61,Zk61):=by
 refine holds_of EE_ok func61 Zk61 (by kernel_rfl) Zu61 (us_ok _) Za61 (fun x hp hb=> ?_)
 obtain⟨c,not⟩:=x
 have hb_c:BdDV (U:=UU) (.box [.sl .byte c.b,.lit (.int .i64 c.i),.lit (.int .i64 c.h)]):=hb _ (zab)
 have hl_c_b:c.b.length≤9223372036854775807:=Bd.len (U:=UU) (τ:=.byte) (xs:=c.b) (hb_c _ (by simp))
 have hb_not:BdDV (U:=UU) (.one (.lit (.bool not))):=hb _ (zaa _ (zab))
 have hp0:cOk c:=hp _ (zab)
 clear hp hb
 apply @ve _ (let x2:ByteArray:={data:= #[(111:UInt8),(114:UInt8),(100:UInt8),(101:UInt8),(114:UInt8)]:ByteArray};let x3:ByteArray:={data:= #[(105:UInt8),(116:UInt8),(101:UInt8),(109:UInt8)]:ByteArray};let x1:List ByteArray:=[x2,{data:= #[(112:UInt8),(97:UInt8),(105:UInt8),(100:UInt8)]:ByteArray},x3,x2];let x0:DCur:=strC c x1;cOk c∧(1:Nat)≤x1.length∧bif ByteArray.toList (strV c x1)==ByteArray.toList x3 then Zi61_6 c not ((0:Int),({data:= #[]:ByteArray},[],false,()),(strV c x1,[],not,()),(x0.b,x0.i,x0.h,()),())∧∀(y:Int×(ByteArray×List DArg×Bool×PUnit)×(ByteArray×List DArg×Bool×PUnit)×(List Int×Int×Int×PUnit)×PUnit),let x5:DCur:={b:=y.2.2.2.1.1,i:=y.2.2.2.1.2.1,h:=y.2.2.2.1.2.2.1:DCur};let x4:DCur:=argDC x5;Zi61_6 c not y→bif decide (y.1<(2:Int)) then cOk x5∧y.2.2.1.2.1.length+List.length [argD x5]≤(4294967296:Nat)∧Zi61_6 c not (IntKind.wrap IntKind.i64 (y.1+(1:Int)),(y.2.1.1,y.2.1.2.1,y.2.1.2.2.1,()),(y.2.2.1.1,y.2.2.1.2.1++[argD x5],y.2.2.1.2.2.1,()),(x4.b,x4.i,x4.h,()),())∧Zm61_6 c not (IntKind.wrap IntKind.i64 (y.1+(1:Int)),(y.2.1.1,y.2.1.2.1,y.2.1.2.2.1,()),(y.2.2.1.1,y.2.2.1.2.1++[argD x5],y.2.2.1.2.2.1,()),(x4.b,x4.i,x4.h,()),())<Zm61_6 c not y else(0:Nat)=(0:Nat)∧asD [DV.agg [CS y.2.2.1.1,CL .eArg y.2.2.1.2.1,CO y.2.2.1.2.2.1]]=asD [DV.agg [CS ((patD not c).Kind),CL .eArg (patD not c).Args,CO ((patD not c).Not)]]∧asD [DV.box [CL .byte y.2.2.2.1.1,CI y.2.2.2.1.2.1,CI y.2.2.2.1.2.2.1]]=asD [DV.box [CL .byte (patDC c).b,CI ((patDC c).i),CI ((patDC c).h)]] else Zi61_6 c not ((0:Int),({data:= #[]:ByteArray},[],false,()),(strV c x1,[],not,()),(x0.b,x0.i,x0.h,()),())∧∀(y:Int×(ByteArray×List DArg×Bool×PUnit)×(ByteArray×List DArg×Bool×PUnit)×(List Int×Int×Int×PUnit)×PUnit),let x5:DCur:={b:=y.2.2.2.1.1,i:=y.2.2.2.1.2.1,h:=y.2.2.2.1.2.2.1:DCur};let x4:DCur:=argDC x5;Zi61_6 c not y→bif decide (y.1<(1:Int)) then cOk x5∧y.2.2.1.2.1.length+List.length [argD x5]≤(4294967296:Nat)∧Zi61_6 c not (IntKind.wrap IntKind.i64 (y.1+(1:Int)),(y.2.1.1,y.2.1.2.1,y.2.1.2.2.1,()),(y.2.2.1.1,y.2.2.1.2.1++[argD x5],y.2.2.1.2.2.1,()),(x4.b,x4.i,x4.h,()),())∧Zm61_6 c not (IntKind.wrap IntKind.i64 (y.1+(1:Int)),(y.2.1.1,y.2.1.2.1,y.2.1.2.2.1,()),(y.2.2.1.1,y.2.2.1.2.1++[argD x5],y.2.2.1.2.2.1,()),(x4.b,x4.i,x4.h,()),())<Zm61_6 c not y else(0:Nat)=(0:Nat)∧asD [DV.agg [CS y.2.2.1.1,CL .eArg y.2.2.1.2.1,CO y.2.2.1.2.2.1]]=asD [DV.agg [CS ((patD not c).Kind),CL .eArg (patD not c).Args,CO ((patD not c).Not)]]∧asD [DV.box [CL .byte y.2.2.2.1.1,CI y.2.2.2.1.2.1,CI y.2.2.2.1.2.2.1]]=asD [DV.box [CL .byte (patDC c).b,CI ((patDC c).i),CI ((patDC c).h)]]) (by kernel_rfl)
 dsimp only
 have hk:=cOk_str hp0 sLkind
 have hle:=patN_le c
 have fin:Zi61_6 c not ((0:Int),(noBytes,[],false,()),(strV c sLkind,[],not,()),((strC c sLkind).b,(strC c sLkind).i,(strC c sLkind).h,()),()):=⟨by omega,hle.1,rfl,rfl,hk,by simp,by simp only[Int.sub_zero];rfl,by simp only[Int.sub_zero];rfl⟩
 have h2:∀{b:Bool},(ByteArray.toList (strV c sLkind)==ByteArray.toList bItem)=b→patN c=if b=true then 2 else 1:=fun{b} h=>by
  rw[toList_beq] at h
  unfold patN
  cases b with
  |true=>rw[if_pos (of_decide_eq_true h)];rfl
  |false=>rw[if_neg (of_decide_eq_false h)];rfl
 refine⟨hp0,by simp,if_cond (fun h=> ?_) (fun h=> ?_)⟩
 all_goals
  have hN:=h2 h
  simp only[if_true,zbg,if_false] at hN
  clear h
  refine⟨fin,?_⟩
  rintro⟨i,⟨r1,r2,r3,⟨⟩⟩,⟨p1,p2,p3,⟨⟩⟩,⟨cb,ci,ch,⟨⟩⟩,⟨⟩⟩ ⟨g1,g2,g3,g4,g5,g6,g7,g8⟩
  simp only at g1 g2 g3 g4 g5 g6 g7 g8⊢
  refine if_dec (fun hc=> ?_) (fun hc=>⟨by trivial,?_⟩)
  ·have e:(patN c-i).toNat=(patN c-(i+1)).toNat+1:=by omega
   rw[e] at g7 g8
   rw[wrap_i64 (by omega) (by omega)]
   exact⟨g5,by simp only[zbq,zbo];omega,⟨by omega,by omega,g3,g4,cOk_arg g5,by simp only[zce,zbq,zbo];omega,g7,g8⟩,by simp only[Zm61_6];omega⟩
  ·have e:(patN c-i).toNat=0:=by omega
   rw[e] at g7 g8
   have g7:p2=(patD not c).Args:=g7
   have g8:(⟨cb,ci,ch⟩:DCur)=patDC c:=g8
   subst g3 g4 g7
   exact LdP (a:=⟨strV c sLkind,(patD p3 c).Args,p3⟩) (d:=⟨cb,ci,ch⟩) rfl g8
def Zh61:HH:=⟨_,Zo61⟩
def Zk92:Con UU where
 α:=DCur
 md:=[.box false]
 of:=fun|[.box [.sl .byte a0,.lit (.int .i64 a1),.lit (.int .i64 a2)]]=>some ⟨a0,a1,a2⟩|_=>none
 ds:=fun c=>[.box [.sl .byte c.b,.lit (.int .i64 c.i),.lit (.int .i64 c.h)]]
 pre:=fun c=>[cOk c]
 res:=fun c=>⟨[.agg [.lit (.int .i64 ((termD c)).K),.lit (.string ((termD c)).S),.lit (.int .i64 (((termD c)).V).K),.lit (.int .i64 (((termD c)).V).N),.lit (.string (((termD c)).V).S)]],true,[.box [.sl .byte ((termDC c)).b,.lit (.int .i64 ((termDC c)).i),.lit (.int .i64 ((termDC c)).h)]]⟩
 law:=by intro l x h;(try simp only at h);split at h<;>cases h;rfl
def Za92:Zk92.α→Nat→Option (Ann UU):=fun c=>annL []
def Zu92:=us [Zh19,Zh55,Zh29,Zh94,Zh95]
theorem Zo92:Holds EE (92,Zk92):=by
 refine holds_of EE_ok func92 Zk92 (by kernel_rfl) Zu92 (us_ok _) Za92 (fun(c:DCur) hp hb=> ?_)
 have hb_c:BdDV (U:=UU) (.box [.sl .byte c.b,.lit (.int .i64 c.i),.lit (.int .i64 c.h)]):=hb _ (zab)
 have hl_c_b:c.b.length≤9223372036854775807:=Bd.len (U:=UU) (τ:=.byte) (xs:=c.b) (hb_c _ (by simp))
 have hp0:cOk c:=hp _ (zab)
 clear hp hb
 apply @ve _ (let x1:List ByteArray:=[{data:= #[(88:UInt8)]:ByteArray},{data:= #[(89:UInt8)]:ByteArray}];let x0:DCur:=strC (belowC c (3:Int)) x1;cOk c∧bif onceV c (3:Int) then cOk (belowC c (3:Int))∧(0:Nat)=(0:Nat)∧asD [DV.agg [CI (2:Int),CS noBytes,CI ((smallV (belowC c (3:Int))).K),CI ((smallV (belowC c (3:Int))).N),CS ((smallV (belowC c (3:Int))).S)]]=asD [DV.agg [CI ((termD c).K),CS ((termD c).S),CI ((termD c).V.K),CI ((termD c).V.N),CS ((termD c).V.S)]]∧asD [DV.box [CL .byte (smallC (belowC c (3:Int))).b,CI ((smallC (belowC c (3:Int))).i),CI ((smallC (belowC c (3:Int))).h)]]=asD [DV.box [CL .byte (termDC c).b,CI ((termDC c).i),CI ((termDC c).h)]] else cOk (belowC c (3:Int))∧(1:Nat)≤x1.length∧(0:Nat)=(0:Nat)∧asD [DV.agg [CI (1:Int),CS (strV (belowC c (3:Int)) x1),CI zVal.K,CI zVal.N,CS zVal.S]]=asD [DV.agg [CI ((termD c).K),CS ((termD c).S),CI ((termD c).V.K),CI ((termD c).V.N),CS ((termD c).V.S)]]∧asD [DV.box [CL .byte x0.b,CI x0.i,CI x0.h]]=asD [DV.box [CL .byte (termDC c).b,CI ((termDC c).i),CI ((termDC c).h)]]) (by kernel_rfl)
 dsimp only
 have h6:=cOk_below hp0 3
 refine⟨hp0,if_cond (fun h=>⟨h6,by trivial,?_⟩) (fun h=>⟨h6,by simp,by trivial,?_⟩)⟩
 ·exact LdA (a:=⟨2,noBytes,smallV (belowC c 3)⟩) (d:=smallC (belowC c 3)) (if_pos h).symm (if_pos h).symm
 ·have h:¬onceV c 3=true:=by rw[h];decide
  exact LdA (a:=⟨1,strV (belowC c 3) sLxy,zVal⟩) (d:=strC (belowC c 3) sLxy) (if_neg h).symm (if_neg h).symm
def Zh92:HH:=⟨_,Zo92⟩
def Zk63:Con UU where
 α:=DCur
 md:=[.box false]
 of:=fun|[.box [.sl .byte a0,.lit (.int .i64 a1),.lit (.int .i64 a2)]]=>some ⟨a0,a1,a2⟩|_=>none
 ds:=fun c=>[.box [.sl .byte c.b,.lit (.int .i64 c.i),.lit (.int .i64 c.h)]]
 pre:=fun c=>[cOk c]
 res:=fun c=>⟨[.agg [.lit (.int .i64 ((condD c)).Op),.lit (.int .i64 (((condD c)).L).K),.lit (.string (((condD c)).L).S),.lit (.int .i64 ((((condD c)).L).V).K),.lit (.int .i64 ((((condD c)).L).V).N),.lit (.string ((((condD c)).L).V).S),.lit (.int .i64 (((condD c)).R).K),.lit (.string (((condD c)).R).S),.lit (.int .i64 ((((condD c)).R).V).K),.lit (.int .i64 ((((condD c)).R).V).N),.lit (.string ((((condD c)).R).V).S)]],true,[.box [.sl .byte ((condDC c)).b,.lit (.int .i64 ((condDC c)).i),.lit (.int .i64 ((condDC c)).h)]]⟩
 law:=by intro l x h;(try simp only at h);split at h<;>cases h;rfl
def Za63:Zk63.α→Nat→Option (Ann UU):=fun c=>annL []
def Zu63:=us [Zh20,Zh92]
theorem Zo63:Holds EE (63,Zk63):=by
 refine holds_of EE_ok func63 Zk63 (by kernel_rfl) Zu63 (us_ok _) Za63 (fun(c:DCur) hp hb=> ?_)
 have hb_c:BdDV (U:=UU) (.box [.sl .byte c.b,.lit (.int .i64 c.i),.lit (.int .i64 c.h)]):=hb _ (zab)
 have hl_c_b:c.b.length≤9223372036854775807:=Bd.len (U:=UU) (τ:=.byte) (xs:=c.b) (hb_c _ (by simp))
 have hp0:cOk c:=hp _ (zab)
 clear hp hb
 apply @ve _ (let x1:DCur:=termDC (termDC (belowC c (3:Int)));let x2:DArg:=termD (termDC (belowC c (3:Int)));let x3:DVal:=(termD (belowC c (3:Int))).V;let x4:Int:=(1:Int)+belowV c (3:Int);let x0:DVal:=x2.V;(0:Int)≤c.i∧c.b.length≤(4294967296:Nat)∧cOk (belowC c (3:Int))∧cOk (termDC (belowC c (3:Int)))∧(0:Nat)=(0:Nat)∧asD [DV.agg [CI (IntKind.wrap IntKind.i64 x4),CI ((termD (belowC c (3:Int))).K),CS ((termD (belowC c (3:Int))).S),CI x3.K,CI x3.N,CS x3.S,CI x2.K,CS x2.S,CI x0.K,CI x0.N,CS x0.S]]=asD [DV.agg [CI x4,CI ((termD (belowC c (3:Int))).K),CS ((termD (belowC c (3:Int))).S),CI x3.K,CI x3.N,CS x3.S,CI x2.K,CS x2.S,CI x0.K,CI x0.N,CS x0.S]]∧asD [DV.box [CL .byte x1.b,CI x1.i,CI x1.h]]=asD [DV.box [CL .byte x1.b,CI x1.i,CI x1.h]]) (by kernel_rfl)
 dsimp only
 have hb:=belowV_lt (c:=c) (n:=3) (by omega)
 have h3:=cOk_below hp0 3
 rw[wrap_i64 (by omega) (by omega)]
 exact⟨hp0.1,hp0.2,h3,cOk_term h3,by trivial,rfl,rfl⟩
def Zh63:HH:=⟨_,Zo63⟩
def Zk96:Con UU where
 α:=DCur
 md:=[.box false]
 of:=fun|[.box [.sl .byte a0,.lit (.int .i64 a1),.lit (.int .i64 a2)]]=>some ⟨a0,a1,a2⟩|_=>none
 ds:=fun c=>[.box [.sl .byte c.b,.lit (.int .i64 c.i),.lit (.int .i64 c.h)]]
 pre:=fun c=>[cOk c]
 res:=fun c=>⟨[.agg [.lit (.string ((exprD c)).Op),.lit (.int .i64 (((exprD c)).L).K),.lit (.string (((exprD c)).L).S),.lit (.int .i64 ((((exprD c)).L).V).K),.lit (.int .i64 ((((exprD c)).L).V).N),.lit (.string ((((exprD c)).L).V).S),.lit (.int .i64 (((exprD c)).R).K),.lit (.string (((exprD c)).R).S),.lit (.int .i64 ((((exprD c)).R).V).K),.lit (.int .i64 ((((exprD c)).R).V).N),.lit (.string ((((exprD c)).R).V).S)]],true,[.box [.sl .byte ((exprDC c)).b,.lit (.int .i64 ((exprDC c)).i),.lit (.int .i64 ((exprDC c)).h)]]⟩
 law:=by intro l x h;(try simp only at h);split at h<;>cases h;rfl
def Za96:Zk96.α→Nat→Option (Ann UU):=fun c=>annL []
def Zu96:=us [Zh19,Zh92,Zh29]
theorem Zo96:Holds EE (96,Zk96):=by
 refine holds_of EE_ok func96 Zk96 (by kernel_rfl) Zu96 (us_ok _) Za96 (fun(c:DCur) hp hb=> ?_)
 have hb_c:BdDV (U:=UU) (.box [.sl .byte c.b,.lit (.int .i64 c.i),.lit (.int .i64 c.h)]):=hb _ (zab)
 have hl_c_b:c.b.length≤9223372036854775807:=Bd.len (U:=UU) (τ:=.byte) (xs:=c.b) (hb_c _ (by simp))
 have hp0:cOk c:=hp _ (zab)
 clear hp hb
 apply @ve _ (let x4:List ByteArray:=[{data:= #[(43:UInt8)]:ByteArray},{data:= #[(45:UInt8)]:ByteArray}];let x5:DCur:=belowC (termDC c) (4:Int);let x3:DCur:=strC x5 x4;let x1:DCur:=termDC x3;let x2:DArg:=termD x3;let x0:DVal:=x2.V;cOk c∧cOk (termDC c)∧bif onceV (termDC c) (4:Int) then cOk x5∧(1:Nat)≤x4.length∧cOk x3∧(0:Nat)=(0:Nat)∧asD [DV.agg [CS (strV x5 x4),CI ((termD c).K),CS ((termD c).S),CI ((termD c).V.K),CI ((termD c).V.N),CS ((termD c).V.S),CI x2.K,CS x2.S,CI x0.K,CI x0.N,CS x0.S]]=asD [DV.agg [CS ((exprD c).Op),CI ((exprD c).L.K),CS ((exprD c).L.S),CI ((exprD c).L.V.K),CI ((exprD c).L.V.N),CS ((exprD c).L.V.S),CI ((exprD c).R.K),CS ((exprD c).R.S),CI ((exprD c).R.V.K),CI ((exprD c).R.V.N),CS ((exprD c).R.V.S)]]∧asD [DV.box [CL .byte x1.b,CI x1.i,CI x1.h]]=asD [DV.box [CL .byte (exprDC c).b,CI ((exprDC c).i),CI ((exprDC c).h)]] else(0:Nat)=(0:Nat)∧asD [DV.agg [CS ({data:= #[]:ByteArray}),CI ((termD c).K),CS ((termD c).S),CI ((termD c).V.K),CI ((termD c).V.N),CS ((termD c).V.S),CI (0:Int),CS ({data:= #[]:ByteArray}),CI (0:Int),CI (0:Int),CS ({data:= #[]:ByteArray})]]=asD [DV.agg [CS ((exprD c).Op),CI ((exprD c).L.K),CS ((exprD c).L.S),CI ((exprD c).L.V.K),CI ((exprD c).L.V.N),CS ((exprD c).L.V.S),CI ((exprD c).R.K),CS ((exprD c).R.S),CI ((exprD c).R.V.K),CI ((exprD c).R.V.N),CS ((exprD c).R.V.S)]]∧asD [DV.box [CL .byte x5.b,CI x5.i,CI x5.h]]=asD [DV.box [CL .byte (exprDC c).b,CI ((exprDC c).i),CI ((exprDC c).h)]]) (by kernel_rfl)
 dsimp only
 have h1:=cOk_term hp0
 have h4:=cOk_below h1 4
 refine⟨hp0,h1,if_cond (fun h=>⟨h4,by simp,cOk_str h4 _,by trivial,?_⟩) (fun h=>⟨by trivial,?_⟩)⟩
 ·exact LdE (a:=⟨strV (belowC (termDC c) 4) sLop,termD c,termD (strC (belowC (termDC c) 4) sLop)⟩) (d:=termDC (strC (belowC (termDC c) 4) sLop)) (if_pos h).symm (if_pos h).symm
 ·have h:¬onceV (termDC c) 4=true:=by rw[h];decide
  exact LdE (a:=⟨noBytes,termD c,zArg⟩) (d:=belowC (termDC c) 4) (if_neg h).symm (if_neg h).symm
def Zh96:HH:=⟨_,Zo96⟩
def Zk65:Con UU where
 α:=DCur×Int
 md:=[.box false,.ro]
 of:=fun|[.box [.sl .byte a0,.lit (.int .i64 a1),.lit (.int .i64 a2)],.one (.lit (.int .i64 a3))]=>some (⟨a0,a1,a2⟩,a3)|_=>none
 ds:=fun(c,pats)=>[.box [.sl .byte c.b,.lit (.int .i64 c.i),.lit (.int .i64 c.h)],.one (.lit (.int .i64 pats))]
 pre:=fun(c,pats)=>[cOk c]
 res:=fun(c,pats)=>⟨[.agg [.lit (.int .i64 ((actD pats c)).Kind),.lit (.string ((actD pats c)).Name),.sl .eExpr ((actD pats c)).Args,.lit (.int .i64 ((actD pats c)).N),.lit (.string ((actD pats c)).Undo)]],true,[.box [.sl .byte ((actDC pats c)).b,.lit (.int .i64 ((actDC pats c)).i),.lit (.int .i64 ((actDC pats c)).h)]]⟩
 law:=by intro l x h;(try simp only at h);split at h<;>cases h;rfl
def Zi65_14(c:DCur)(pats:Int):Int×(Int×ByteArray×List DExpr×Int×ByteArray×Unit)×(Int×ByteArray×List DExpr×Int×ByteArray×Unit)×(List Int×Int×Int×Unit)×Unit→Prop:=fun(i,r,p,cu,_)=>0≤i∧i≤actN c∧p.1=actK c∧p.2.1=actName c∧p.2.2.2.1=0∧p.2.2.2.2.1=noBytes∧cOk ⟨cu.1,cu.2.1,cu.2.2.1⟩∧p.2.2.1.length≤i∧iterL exprD exprDC (actN c-i).toNat p.2.2.1 ⟨cu.1,cu.2.1,cu.2.2.1⟩=actAs c∧iterC exprDC (actN c-i).toNat ⟨cu.1,cu.2.1,cu.2.2.1⟩=actC3 c
def Zm65_14(c:DCur)(pats:Int):Int×(Int×ByteArray×List DExpr×Int×ByteArray×Unit)×(Int×ByteArray×List DExpr×Int×ByteArray×Unit)×(List Int×Int×Int×Unit)×Unit→Nat:=fun(i,r,p,cu,_)=>(actN c-i).toNat
def Za65:Zk65.α→Nat→Option (Ann UU):=fun(c,pats)=>annL [(14,annOf [.slot 7 (7,1024) (.lit (.int .i64)),.box 4 (4,1024) [.lit (.int .i64),.lit .str,.own .eExpr true,.lit (.int .i64),.lit .str],.box 5 (5,1024) [.lit (.int .i64),.lit .str,.own .eExpr true,.lit (.int .i64),.lit .str],.box 0 (2000000,0) [.shr .byte,.lit (.int .i64),.lit (.int .i64)]] (fun _=>Zi65_14 c pats) (Zm65_14 c pats))]
def Zu65:=us [Zh28,Zh20,Zh29,Zh96,Zh19]
theorem Zo65:Holds EE (65,Zk65):=by
 refine holds_of EE_ok func65 Zk65 (by kernel_rfl) Zu65 (us_ok _) Za65 (fun x hp hb=> ?_)
 obtain⟨c,pats⟩:=x
 have hb_c:BdDV (U:=UU) (.box [.sl .byte c.b,.lit (.int .i64 c.i),.lit (.int .i64 c.h)]):=hb _ (zab)
 have hl_c_b:c.b.length≤9223372036854775807:=Bd.len (U:=UU) (τ:=.byte) (xs:=c.b) (hb_c _ (by simp))
 have hb_pats:BdDV (U:=UU) (.one (.lit (.int .i64 pats))):=hb _ (zaa _ (zab))
 have hl_pats:=Bd.i64 hb_pats
 have hp0:cOk c:=hp _ (zab)
 clear hp hb
 apply @ve _ (let x4:List ByteArray:=[{data:= #[(114:UInt8),(101:UInt8),(102:UInt8),(117:UInt8),(110:UInt8),(100:UInt8)]:ByteArray},{data:= #[(99:UInt8),(97:UInt8),(110:UInt8),(99:UInt8),(101:UInt8),(108:UInt8)]:ByteArray}];let x7:List Int:=[(1:Int),(1:Int),(2:Int),(3:Int),(3:Int),(4:Int),(5:Int),(6:Int)];let x9:ByteArray:={data:= #[(105:UInt8),(116:UInt8),(101:UInt8),(109:UInt8)]:ByteArray};let x11:List Int:=[(0:Int),(1:Int),(5:Int),(100000:Int)];let x12:ByteArray:={data:= #[]:ByteArray};let x3:List ByteArray:=[{data:= #[(111:UInt8),(114:UInt8),(100:UInt8),(101:UInt8),(114:UInt8)]:ByteArray},{data:= #[(112:UInt8),(97:UInt8),(105:UInt8),(100:UInt8)]:ByteArray},x9,{data:= #[(115:UInt8),(104:UInt8),(105:UInt8),(112:UInt8)]:ByteArray},{data:= #[(99:UInt8),(104:UInt8),(97:UInt8),(114:UInt8),(103:UInt8),(101:UInt8)]:ByteArray}];let x6:Nat:=x7.length;let x10:Nat:=x11.length;let x5:Int:=(↑x6:Int);let x8:Int:=(↑x10:Int);let x1:Int:=List.getD x7 (Int.toNat (belowV c x5)) (0:Int);let x2:DCur:=belowC c x5;let x0:DCur:=strC x2 x3;(0:Int)≤c.i∧c.b.length≤(4294967296:Nat)∧(1:Nat)≤x6∧bif x1==(2:Int) then(0:Int)≤x2.i∧x2.b.length≤(4294967296:Nat)∧(0:Nat)=(0:Nat)∧asD [DV.agg [CI x1,CS x12,CL .eExpr [],CI (belowV x2 pats),CS x12]]=asD [DV.agg [CI ((actD pats c).Kind),CS ((actD pats c).Name),CL .eExpr (actD pats c).Args,CI ((actD pats c).N),CS ((actD pats c).Undo)]]∧asD [DV.box [CL .byte (belowC x2 pats).b,CI ((belowC x2 pats).i),CI ((belowC x2 pats).h)]]=asD [DV.box [CL .byte (actDC pats c).b,CI ((actDC pats c).i),CI ((actDC pats c).h)]] else bif x1==(5:Int) then bif x1==(5:Int) then(0:Nat)=(0:Nat)∧asD [DV.agg [CI x1,CS x12,CL .eExpr [],CI (0:Int),CS x12]]=asD [DV.agg [CI ((actD pats c).Kind),CS ((actD pats c).Name),CL .eExpr (actD pats c).Args,CI ((actD pats c).N),CS ((actD pats c).Undo)]]∧asD [DV.box [CL .byte x2.b,CI x2.i,CI x2.h]]=asD [DV.box [CL .byte (actDC pats c).b,CI ((actDC pats c).i),CI ((actDC pats c).h)]] else cOk x2∧(1:Nat)≤x3.length∧bif ByteArray.toList (strV x2 x3)==ByteArray.toList x9 then Zi65_14 c pats ((0:Int),((0:Int),x12,[],(0:Int),x12,()),(x1,strV x2 x3,[],(0:Int),x12,()),(x0.b,x0.i,x0.h,()),())∧∀(y:Int×(Int×ByteArray×List DExpr×Int×ByteArray×PUnit)×(Int×ByteArray×List DExpr×Int×ByteArray×PUnit)×(List Int×Int×Int×PUnit)×PUnit),let x13:DCur:={b:=y.2.2.2.1.1,i:=y.2.2.2.1.2.1,h:=y.2.2.2.1.2.2.1:DCur};let x14:Bool:=y.2.2.1.1==(3:Int);let x15:DCur:=belowC (belowC x13 x8) (2:Int);let x16:DCur:=strC (belowC x13 (2:Int)) x4;Zi65_14 c pats y→bif decide (y.1<(2:Int)) then cOk x13∧y.2.2.1.2.2.1.length+List.length [exprD x13]≤(4294967296:Nat)∧Zi65_14 c pats (IntKind.wrap IntKind.i64 (y.1+(1:Int)),(y.2.1.1,y.2.1.2.1,y.2.1.2.2.1,y.2.1.2.2.2.1,y.2.1.2.2.2.2.1,()),(y.2.2.1.1,y.2.2.1.2.1,y.2.2.1.2.2.1++[exprD x13],y.2.2.1.2.2.2.1,y.2.2.1.2.2.2.2.1,()),((exprDC x13).b,(exprDC x13).i,(exprDC x13).h,()),())∧Zm65_14 c pats (IntKind.wrap IntKind.i64 (y.1+(1:Int)),(y.2.1.1,y.2.1.2.1,y.2.1.2.2.1,y.2.1.2.2.2.1,y.2.1.2.2.2.2.1,()),(y.2.2.1.1,y.2.2.1.2.1,y.2.2.1.2.2.1++[exprD x13],y.2.2.1.2.2.2.1,y.2.2.1.2.2.2.2.1,()),((exprDC x13).b,(exprDC x13).i,(exprDC x13).h,()),())<Zm65_14 c pats y else bif y.2.2.1.1==(4:Int) then(0:Int)≤y.2.2.2.1.2.1∧y.2.2.2.1.1.length≤(4294967296:Nat)∧(1:Nat)≤x10∧bif x14 then cOk (belowC x13 x8)∧bif onceV (belowC x13 x8) (2:Int) then cOk x15∧(1:Nat)≤x4.length∧(0:Nat)=(0:Nat)∧asD [DV.agg [CI y.2.2.1.1,CS y.2.2.1.2.1,CL .eExpr y.2.2.1.2.2.1,CI (List.getD x11 (Int.toNat (belowV x13 x8)) (0:Int)),CS (strV x15 x4)]]=asD [DV.agg [CI ((actD pats c).Kind),CS ((actD pats c).Name),CL .eExpr (actD pats c).Args,CI ((actD pats c).N),CS ((actD pats c).Undo)]]∧asD [DV.box [CL .byte (strC x15 x4).b,CI ((strC x15 x4).i),CI ((strC x15 x4).h)]]=asD [DV.box [CL .byte (actDC pats c).b,CI ((actDC pats c).i),CI ((actDC pats c).h)]] else(0:Nat)=(0:Nat)∧asD [DV.agg [CI y.2.2.1.1,CS y.2.2.1.2.1,CL .eExpr y.2.2.1.2.2.1,CI (List.getD x11 (Int.toNat (belowV x13 x8)) (0:Int)),CS y.2.2.1.2.2.2.2.1]]=asD [DV.agg [CI ((actD pats c).Kind),CS ((actD pats c).Name),CL .eExpr (actD pats c).Args,CI ((actD pats c).N),CS ((actD pats c).Undo)]]∧asD [DV.box [CL .byte x15.b,CI x15.i,CI x15.h]]=asD [DV.box [CL .byte (actDC pats c).b,CI ((actDC pats c).i),CI ((actDC pats c).h)]] else(0:Nat)=(0:Nat)∧asD [DV.agg [CI y.2.2.1.1,CS y.2.2.1.2.1,CL .eExpr y.2.2.1.2.2.1,CI (List.getD x11 (Int.toNat (belowV x13 x8)) (0:Int)),CS y.2.2.1.2.2.2.2.1]]=asD [DV.agg [CI ((actD pats c).Kind),CS ((actD pats c).Name),CL .eExpr (actD pats c).Args,CI ((actD pats c).N),CS ((actD pats c).Undo)]]∧asD [DV.box [CL .byte (belowC x13 x8).b,CI ((belowC x13 x8).i),CI ((belowC x13 x8).h)]]=asD [DV.box [CL .byte (actDC pats c).b,CI ((actDC pats c).i),CI ((actDC pats c).h)]] else bif x14 then cOk x13∧bif onceV x13 (2:Int) then cOk (belowC x13 (2:Int))∧(1:Nat)≤x4.length∧(0:Nat)=(0:Nat)∧asD [DV.agg [CI y.2.2.1.1,CS y.2.2.1.2.1,CL .eExpr y.2.2.1.2.2.1,CI y.2.2.1.2.2.2.1,CS (strV (belowC x13 (2:Int)) x4)]]=asD [DV.agg [CI ((actD pats c).Kind),CS ((actD pats c).Name),CL .eExpr (actD pats c).Args,CI ((actD pats c).N),CS ((actD pats c).Undo)]]∧asD [DV.box [CL .byte x16.b,CI x16.i,CI x16.h]]=asD [DV.box [CL .byte (actDC pats c).b,CI ((actDC pats c).i),CI ((actDC pats c).h)]] else(0:Nat)=(0:Nat)∧asD [DV.agg [CI y.2.2.1.1,CS y.2.2.1.2.1,CL .eExpr y.2.2.1.2.2.1,CI y.2.2.1.2.2.2.1,CS y.2.2.1.2.2.2.2.1]]=asD [DV.agg [CI ((actD pats c).Kind),CS ((actD pats c).Name),CL .eExpr (actD pats c).Args,CI ((actD pats c).N),CS ((actD pats c).Undo)]]∧asD [DV.box [CL .byte (belowC x13 (2:Int)).b,CI ((belowC x13 (2:Int)).i),CI ((belowC x13 (2:Int)).h)]]=asD [DV.box [CL .byte (actDC pats c).b,CI ((actDC pats c).i),CI ((actDC pats c).h)]] else(0:Nat)=(0:Nat)∧asD [DV.agg [CI y.2.2.1.1,CS y.2.2.1.2.1,CL .eExpr y.2.2.1.2.2.1,CI y.2.2.1.2.2.2.1,CS y.2.2.1.2.2.2.2.1]]=asD [DV.agg [CI ((actD pats c).Kind),CS ((actD pats c).Name),CL .eExpr (actD pats c).Args,CI ((actD pats c).N),CS ((actD pats c).Undo)]]∧asD [DV.box [CL .byte y.2.2.2.1.1,CI y.2.2.2.1.2.1,CI y.2.2.2.1.2.2.1]]=asD [DV.box [CL .byte (actDC pats c).b,CI ((actDC pats c).i),CI ((actDC pats c).h)]] else Zi65_14 c pats ((0:Int),((0:Int),x12,[],(0:Int),x12,()),(x1,strV x2 x3,[],(0:Int),x12,()),(x0.b,x0.i,x0.h,()),())∧∀(y:Int×(Int×ByteArray×List DExpr×Int×ByteArray×PUnit)×(Int×ByteArray×List DExpr×Int×ByteArray×PUnit)×(List Int×Int×Int×PUnit)×PUnit),let x13:DCur:={b:=y.2.2.2.1.1,i:=y.2.2.2.1.2.1,h:=y.2.2.2.1.2.2.1:DCur};let x14:Bool:=y.2.2.1.1==(3:Int);let x15:DCur:=belowC (belowC x13 x8) (2:Int);let x16:DCur:=strC (belowC x13 (2:Int)) x4;Zi65_14 c pats y→bif decide (y.1<(1:Int)) then cOk x13∧y.2.2.1.2.2.1.length+List.length [exprD x13]≤(4294967296:Nat)∧Zi65_14 c pats (IntKind.wrap IntKind.i64 (y.1+(1:Int)),(y.2.1.1,y.2.1.2.1,y.2.1.2.2.1,y.2.1.2.2.2.1,y.2.1.2.2.2.2.1,()),(y.2.2.1.1,y.2.2.1.2.1,y.2.2.1.2.2.1++[exprD x13],y.2.2.1.2.2.2.1,y.2.2.1.2.2.2.2.1,()),((exprDC x13).b,(exprDC x13).i,(exprDC x13).h,()),())∧Zm65_14 c pats (IntKind.wrap IntKind.i64 (y.1+(1:Int)),(y.2.1.1,y.2.1.2.1,y.2.1.2.2.1,y.2.1.2.2.2.1,y.2.1.2.2.2.2.1,()),(y.2.2.1.1,y.2.2.1.2.1,y.2.2.1.2.2.1++[exprD x13],y.2.2.1.2.2.2.1,y.2.2.1.2.2.2.2.1,()),((exprDC x13).b,(exprDC x13).i,(exprDC x13).h,()),())<Zm65_14 c pats y else bif y.2.2.1.1==(4:Int) then(0:Int)≤y.2.2.2.1.2.1∧y.2.2.2.1.1.length≤(4294967296:Nat)∧(1:Nat)≤x10∧bif x14 then cOk (belowC x13 x8)∧bif onceV (belowC x13 x8) (2:Int) then cOk x15∧(1:Nat)≤x4.length∧(0:Nat)=(0:Nat)∧asD [DV.agg [CI y.2.2.1.1,CS y.2.2.1.2.1,CL .eExpr y.2.2.1.2.2.1,CI (List.getD x11 (Int.toNat (belowV x13 x8)) (0:Int)),CS (strV x15 x4)]]=asD [DV.agg [CI ((actD pats c).Kind),CS ((actD pats c).Name),CL .eExpr (actD pats c).Args,CI ((actD pats c).N),CS ((actD pats c).Undo)]]∧asD [DV.box [CL .byte (strC x15 x4).b,CI ((strC x15 x4).i),CI ((strC x15 x4).h)]]=asD [DV.box [CL .byte (actDC pats c).b,CI ((actDC pats c).i),CI ((actDC pats c).h)]] else(0:Nat)=(0:Nat)∧asD [DV.agg [CI y.2.2.1.1,CS y.2.2.1.2.1,CL .eExpr y.2.2.1.2.2.1,CI (List.getD x11 (Int.toNat (belowV x13 x8)) (0:Int)),CS y.2.2.1.2.2.2.2.1]]=asD [DV.agg [CI ((actD pats c).Kind),CS ((actD pats c).Name),CL .eExpr (actD pats c).Args,CI ((actD pats c).N),CS ((actD pats c).Undo)]]∧asD [DV.box [CL .byte x15.b,CI x15.i,CI x15.h]]=asD [DV.box [CL .byte (actDC pats c).b,CI ((actDC pats c).i),CI ((actDC pats c).h)]] else(0:Nat)=(0:Nat)∧asD [DV.agg [CI y.2.2.1.1,CS y.2.2.1.2.1,CL .eExpr y.2.2.1.2.2.1,CI (List.getD x11 (Int.toNat (belowV x13 x8)) (0:Int)),CS y.2.2.1.2.2.2.2.1]]=asD [DV.agg [CI ((actD pats c).Kind),CS ((actD pats c).Name),CL .eExpr (actD pats c).Args,CI ((actD pats c).N),CS ((actD pats c).Undo)]]∧asD [DV.box [CL .byte (belowC x13 x8).b,CI ((belowC x13 x8).i),CI ((belowC x13 x8).h)]]=asD [DV.box [CL .byte (actDC pats c).b,CI ((actDC pats c).i),CI ((actDC pats c).h)]] else bif x14 then cOk x13∧bif onceV x13 (2:Int) then cOk (belowC x13 (2:Int))∧(1:Nat)≤x4.length∧(0:Nat)=(0:Nat)∧asD [DV.agg [CI y.2.2.1.1,CS y.2.2.1.2.1,CL .eExpr y.2.2.1.2.2.1,CI y.2.2.1.2.2.2.1,CS (strV (belowC x13 (2:Int)) x4)]]=asD [DV.agg [CI ((actD pats c).Kind),CS ((actD pats c).Name),CL .eExpr (actD pats c).Args,CI ((actD pats c).N),CS ((actD pats c).Undo)]]∧asD [DV.box [CL .byte x16.b,CI x16.i,CI x16.h]]=asD [DV.box [CL .byte (actDC pats c).b,CI ((actDC pats c).i),CI ((actDC pats c).h)]] else(0:Nat)=(0:Nat)∧asD [DV.agg [CI y.2.2.1.1,CS y.2.2.1.2.1,CL .eExpr y.2.2.1.2.2.1,CI y.2.2.1.2.2.2.1,CS y.2.2.1.2.2.2.2.1]]=asD [DV.agg [CI ((actD pats c).Kind),CS ((actD pats c).Name),CL .eExpr (actD pats c).Args,CI ((actD pats c).N),CS ((actD pats c).Undo)]]∧asD [DV.box [CL .byte (belowC x13 (2:Int)).b,CI ((belowC x13 (2:Int)).i),CI ((belowC x13 (2:Int)).h)]]=asD [DV.box [CL .byte (actDC pats c).b,CI ((actDC pats c).i),CI ((actDC pats c).h)]] else(0:Nat)=(0:Nat)∧asD [DV.agg [CI y.2.2.1.1,CS y.2.2.1.2.1,CL .eExpr y.2.2.1.2.2.1,CI y.2.2.1.2.2.2.1,CS y.2.2.1.2.2.2.2.1]]=asD [DV.agg [CI ((actD pats c).Kind),CS ((actD pats c).Name),CL .eExpr (actD pats c).Args,CI ((actD pats c).N),CS ((actD pats c).Undo)]]∧asD [DV.box [CL .byte y.2.2.2.1.1,CI y.2.2.2.1.2.1,CI y.2.2.2.1.2.2.1]]=asD [DV.box [CL .byte (actDC pats c).b,CI ((actDC pats c).i),CI ((actDC pats c).h)]] else bif x1==(6:Int) then(0:Nat)=(0:Nat)∧asD [DV.agg [CI x1,CS x12,CL .eExpr [],CI (0:Int),CS x12]]=asD [DV.agg [CI ((actD pats c).Kind),CS ((actD pats c).Name),CL .eExpr (actD pats c).Args,CI ((actD pats c).N),CS ((actD pats c).Undo)]]∧asD [DV.box [CL .byte x2.b,CI x2.i,CI x2.h]]=asD [DV.box [CL .byte (actDC pats c).b,CI ((actDC pats c).i),CI ((actDC pats c).h)]] else cOk x2∧(1:Nat)≤x3.length∧bif ByteArray.toList (strV x2 x3)==ByteArray.toList x9 then Zi65_14 c pats ((0:Int),((0:Int),x12,[],(0:Int),x12,()),(x1,strV x2 x3,[],(0:Int),x12,()),(x0.b,x0.i,x0.h,()),())∧∀(y:Int×(Int×ByteArray×List DExpr×Int×ByteArray×PUnit)×(Int×ByteArray×List DExpr×Int×ByteArray×PUnit)×(List Int×Int×Int×PUnit)×PUnit),let x13:DCur:={b:=y.2.2.2.1.1,i:=y.2.2.2.1.2.1,h:=y.2.2.2.1.2.2.1:DCur};let x14:Bool:=y.2.2.1.1==(3:Int);let x15:DCur:=belowC (belowC x13 x8) (2:Int);let x16:DCur:=strC (belowC x13 (2:Int)) x4;Zi65_14 c pats y→bif decide (y.1<(2:Int)) then cOk x13∧y.2.2.1.2.2.1.length+List.length [exprD x13]≤(4294967296:Nat)∧Zi65_14 c pats (IntKind.wrap IntKind.i64 (y.1+(1:Int)),(y.2.1.1,y.2.1.2.1,y.2.1.2.2.1,y.2.1.2.2.2.1,y.2.1.2.2.2.2.1,()),(y.2.2.1.1,y.2.2.1.2.1,y.2.2.1.2.2.1++[exprD x13],y.2.2.1.2.2.2.1,y.2.2.1.2.2.2.2.1,()),((exprDC x13).b,(exprDC x13).i,(exprDC x13).h,()),())∧Zm65_14 c pats (IntKind.wrap IntKind.i64 (y.1+(1:Int)),(y.2.1.1,y.2.1.2.1,y.2.1.2.2.1,y.2.1.2.2.2.1,y.2.1.2.2.2.2.1,()),(y.2.2.1.1,y.2.2.1.2.1,y.2.2.1.2.2.1++[exprD x13],y.2.2.1.2.2.2.1,y.2.2.1.2.2.2.2.1,()),((exprDC x13).b,(exprDC x13).i,(exprDC x13).h,()),())<Zm65_14 c pats y else bif y.2.2.1.1==(4:Int) then(0:Int)≤y.2.2.2.1.2.1∧y.2.2.2.1.1.length≤(4294967296:Nat)∧(1:Nat)≤x10∧bif x14 then cOk (belowC x13 x8)∧bif onceV (belowC x13 x8) (2:Int) then cOk x15∧(1:Nat)≤x4.length∧(0:Nat)=(0:Nat)∧asD [DV.agg [CI y.2.2.1.1,CS y.2.2.1.2.1,CL .eExpr y.2.2.1.2.2.1,CI (List.getD x11 (Int.toNat (belowV x13 x8)) (0:Int)),CS (strV x15 x4)]]=asD [DV.agg [CI ((actD pats c).Kind),CS ((actD pats c).Name),CL .eExpr (actD pats c).Args,CI ((actD pats c).N),CS ((actD pats c).Undo)]]∧asD [DV.box [CL .byte (strC x15 x4).b,CI ((strC x15 x4).i),CI ((strC x15 x4).h)]]=asD [DV.box [CL .byte (actDC pats c).b,CI ((actDC pats c).i),CI ((actDC pats c).h)]] else(0:Nat)=(0:Nat)∧asD [DV.agg [CI y.2.2.1.1,CS y.2.2.1.2.1,CL .eExpr y.2.2.1.2.2.1,CI (List.getD x11 (Int.toNat (belowV x13 x8)) (0:Int)),CS y.2.2.1.2.2.2.2.1]]=asD [DV.agg [CI ((actD pats c).Kind),CS ((actD pats c).Name),CL .eExpr (actD pats c).Args,CI ((actD pats c).N),CS ((actD pats c).Undo)]]∧asD [DV.box [CL .byte x15.b,CI x15.i,CI x15.h]]=asD [DV.box [CL .byte (actDC pats c).b,CI ((actDC pats c).i),CI ((actDC pats c).h)]] else(0:Nat)=(0:Nat)∧asD [DV.agg [CI y.2.2.1.1,CS y.2.2.1.2.1,CL .eExpr y.2.2.1.2.2.1,CI (List.getD x11 (Int.toNat (belowV x13 x8)) (0:Int)),CS y.2.2.1.2.2.2.2.1]]=asD [DV.agg [CI ((actD pats c).Kind),CS ((actD pats c).Name),CL .eExpr (actD pats c).Args,CI ((actD pats c).N),CS ((actD pats c).Undo)]]∧asD [DV.box [CL .byte (belowC x13 x8).b,CI ((belowC x13 x8).i),CI ((belowC x13 x8).h)]]=asD [DV.box [CL .byte (actDC pats c).b,CI ((actDC pats c).i),CI ((actDC pats c).h)]] else bif x14 then cOk x13∧bif onceV x13 (2:Int) then cOk (belowC x13 (2:Int))∧(1:Nat)≤x4.length∧(0:Nat)=(0:Nat)∧asD [DV.agg [CI y.2.2.1.1,CS y.2.2.1.2.1,CL .eExpr y.2.2.1.2.2.1,CI y.2.2.1.2.2.2.1,CS (strV (belowC x13 (2:Int)) x4)]]=asD [DV.agg [CI ((actD pats c).Kind),CS ((actD pats c).Name),CL .eExpr (actD pats c).Args,CI ((actD pats c).N),CS ((actD pats c).Undo)]]∧asD [DV.box [CL .byte x16.b,CI x16.i,CI x16.h]]=asD [DV.box [CL .byte (actDC pats c).b,CI ((actDC pats c).i),CI ((actDC pats c).h)]] else(0:Nat)=(0:Nat)∧asD [DV.agg [CI y.2.2.1.1,CS y.2.2.1.2.1,CL .eExpr y.2.2.1.2.2.1,CI y.2.2.1.2.2.2.1,CS y.2.2.1.2.2.2.2.1]]=asD [DV.agg [CI ((actD pats c).Kind),CS ((actD pats c).Name),CL .eExpr (actD pats c).Args,CI ((actD pats c).N),CS ((actD pats c).Undo)]]∧asD [DV.box [CL .byte (belowC x13 (2:Int)).b,CI ((belowC x13 (2:Int)).i),CI ((belowC x13 (2:Int)).h)]]=asD [DV.box [CL .byte (actDC pats c).b,CI ((actDC pats c).i),CI ((actDC pats c).h)]] else(0:Nat)=(0:Nat)∧asD [DV.agg [CI y.2.2.1.1,CS y.2.2.1.2.1,CL .eExpr y.2.2.1.2.2.1,CI y.2.2.1.2.2.2.1,CS y.2.2.1.2.2.2.2.1]]=asD [DV.agg [CI ((actD pats c).Kind),CS ((actD pats c).Name),CL .eExpr (actD pats c).Args,CI ((actD pats c).N),CS ((actD pats c).Undo)]]∧asD [DV.box [CL .byte y.2.2.2.1.1,CI y.2.2.2.1.2.1,CI y.2.2.2.1.2.2.1]]=asD [DV.box [CL .byte (actDC pats c).b,CI ((actDC pats c).i),CI ((actDC pats c).h)]] else Zi65_14 c pats ((0:Int),((0:Int),x12,[],(0:Int),x12,()),(x1,strV x2 x3,[],(0:Int),x12,()),(x0.b,x0.i,x0.h,()),())∧∀(y:Int×(Int×ByteArray×List DExpr×Int×ByteArray×PUnit)×(Int×ByteArray×List DExpr×Int×ByteArray×PUnit)×(List Int×Int×Int×PUnit)×PUnit),let x13:DCur:={b:=y.2.2.2.1.1,i:=y.2.2.2.1.2.1,h:=y.2.2.2.1.2.2.1:DCur};let x14:Bool:=y.2.2.1.1==(3:Int);let x15:DCur:=belowC (belowC x13 x8) (2:Int);let x16:DCur:=strC (belowC x13 (2:Int)) x4;Zi65_14 c pats y→bif decide (y.1<(1:Int)) then cOk x13∧y.2.2.1.2.2.1.length+List.length [exprD x13]≤(4294967296:Nat)∧Zi65_14 c pats (IntKind.wrap IntKind.i64 (y.1+(1:Int)),(y.2.1.1,y.2.1.2.1,y.2.1.2.2.1,y.2.1.2.2.2.1,y.2.1.2.2.2.2.1,()),(y.2.2.1.1,y.2.2.1.2.1,y.2.2.1.2.2.1++[exprD x13],y.2.2.1.2.2.2.1,y.2.2.1.2.2.2.2.1,()),((exprDC x13).b,(exprDC x13).i,(exprDC x13).h,()),())∧Zm65_14 c pats (IntKind.wrap IntKind.i64 (y.1+(1:Int)),(y.2.1.1,y.2.1.2.1,y.2.1.2.2.1,y.2.1.2.2.2.1,y.2.1.2.2.2.2.1,()),(y.2.2.1.1,y.2.2.1.2.1,y.2.2.1.2.2.1++[exprD x13],y.2.2.1.2.2.2.1,y.2.2.1.2.2.2.2.1,()),((exprDC x13).b,(exprDC x13).i,(exprDC x13).h,()),())<Zm65_14 c pats y else bif y.2.2.1.1==(4:Int) then(0:Int)≤y.2.2.2.1.2.1∧y.2.2.2.1.1.length≤(4294967296:Nat)∧(1:Nat)≤x10∧bif x14 then cOk (belowC x13 x8)∧bif onceV (belowC x13 x8) (2:Int) then cOk x15∧(1:Nat)≤x4.length∧(0:Nat)=(0:Nat)∧asD [DV.agg [CI y.2.2.1.1,CS y.2.2.1.2.1,CL .eExpr y.2.2.1.2.2.1,CI (List.getD x11 (Int.toNat (belowV x13 x8)) (0:Int)),CS (strV x15 x4)]]=asD [DV.agg [CI ((actD pats c).Kind),CS ((actD pats c).Name),CL .eExpr (actD pats c).Args,CI ((actD pats c).N),CS ((actD pats c).Undo)]]∧asD [DV.box [CL .byte (strC x15 x4).b,CI ((strC x15 x4).i),CI ((strC x15 x4).h)]]=asD [DV.box [CL .byte (actDC pats c).b,CI ((actDC pats c).i),CI ((actDC pats c).h)]] else(0:Nat)=(0:Nat)∧asD [DV.agg [CI y.2.2.1.1,CS y.2.2.1.2.1,CL .eExpr y.2.2.1.2.2.1,CI (List.getD x11 (Int.toNat (belowV x13 x8)) (0:Int)),CS y.2.2.1.2.2.2.2.1]]=asD [DV.agg [CI ((actD pats c).Kind),CS ((actD pats c).Name),CL .eExpr (actD pats c).Args,CI ((actD pats c).N),CS ((actD pats c).Undo)]]∧asD [DV.box [CL .byte x15.b,CI x15.i,CI x15.h]]=asD [DV.box [CL .byte (actDC pats c).b,CI ((actDC pats c).i),CI ((actDC pats c).h)]] else(0:Nat)=(0:Nat)∧asD [DV.agg [CI y.2.2.1.1,CS y.2.2.1.2.1,CL .eExpr y.2.2.1.2.2.1,CI (List.getD x11 (Int.toNat (belowV x13 x8)) (0:Int)),CS y.2.2.1.2.2.2.2.1]]=asD [DV.agg [CI ((actD pats c).Kind),CS ((actD pats c).Name),CL .eExpr (actD pats c).Args,CI ((actD pats c).N),CS ((actD pats c).Undo)]]∧asD [DV.box [CL .byte (belowC x13 x8).b,CI ((belowC x13 x8).i),CI ((belowC x13 x8).h)]]=asD [DV.box [CL .byte (actDC pats c).b,CI ((actDC pats c).i),CI ((actDC pats c).h)]] else bif x14 then cOk x13∧bif onceV x13 (2:Int) then cOk (belowC x13 (2:Int))∧(1:Nat)≤x4.length∧(0:Nat)=(0:Nat)∧asD [DV.agg [CI y.2.2.1.1,CS y.2.2.1.2.1,CL .eExpr y.2.2.1.2.2.1,CI y.2.2.1.2.2.2.1,CS (strV (belowC x13 (2:Int)) x4)]]=asD [DV.agg [CI ((actD pats c).Kind),CS ((actD pats c).Name),CL .eExpr (actD pats c).Args,CI ((actD pats c).N),CS ((actD pats c).Undo)]]∧asD [DV.box [CL .byte x16.b,CI x16.i,CI x16.h]]=asD [DV.box [CL .byte (actDC pats c).b,CI ((actDC pats c).i),CI ((actDC pats c).h)]] else(0:Nat)=(0:Nat)∧asD [DV.agg [CI y.2.2.1.1,CS y.2.2.1.2.1,CL .eExpr y.2.2.1.2.2.1,CI y.2.2.1.2.2.2.1,CS y.2.2.1.2.2.2.2.1]]=asD [DV.agg [CI ((actD pats c).Kind),CS ((actD pats c).Name),CL .eExpr (actD pats c).Args,CI ((actD pats c).N),CS ((actD pats c).Undo)]]∧asD [DV.box [CL .byte (belowC x13 (2:Int)).b,CI ((belowC x13 (2:Int)).i),CI ((belowC x13 (2:Int)).h)]]=asD [DV.box [CL .byte (actDC pats c).b,CI ((actDC pats c).i),CI ((actDC pats c).h)]] else(0:Nat)=(0:Nat)∧asD [DV.agg [CI y.2.2.1.1,CS y.2.2.1.2.1,CL .eExpr y.2.2.1.2.2.1,CI y.2.2.1.2.2.2.1,CS y.2.2.1.2.2.2.2.1]]=asD [DV.agg [CI ((actD pats c).Kind),CS ((actD pats c).Name),CL .eExpr (actD pats c).Args,CI ((actD pats c).N),CS ((actD pats c).Undo)]]∧asD [DV.box [CL .byte y.2.2.2.1.1,CI y.2.2.2.1.2.1,CI y.2.2.2.1.2.2.1]]=asD [DV.box [CL .byte (actDC pats c).b,CI ((actDC pats c).i),CI ((actDC pats c).h)]]) (by kernel_rfl)
 dsimp only
 have hk:=cOk_int hp0 iLact
 have hk2:=cOk_act2 hp0
 have hle:=actN_le c
 have fin:Zi65_14 c pats ((0:Int),((0:Int),noBytes,[],(0:Int),noBytes,()),(actK c,actName c,[],(0:Int),noBytes,()),((actC2 c).b,(actC2 c).i,(actC2 c).h,()),()):=⟨by omega,hle.1,rfl,rfl,rfl,rfl,hk2,by simp,by simp only[Int.sub_zero];rfl,by simp only[Int.sub_zero];rfl⟩
 have h2:∀{b:Bool},(ByteArray.toList (actName c)==ByteArray.toList bItem)=b→actN c=if b=true then 2 else 1:=fun{b} h=>by
  rw[toList_beq] at h
  unfold actN
  cases b with
  |true=>rw[if_pos (of_decide_eq_true h)];rfl
  |false=>rw[if_neg (of_decide_eq_false h)];rfl
 have rest:¬actK c=2→¬(actK c=5∨actK c=6)→actD pats c=⟨actK c,actName c,actAs c,actT c,actU c⟩∧actDC pats c=actC5 c:=fun n2 n56=>⟨(if_neg n2).trans (if_neg n56),(if_neg n2).trans (if_neg n56)⟩
 refine⟨hp0.1,hp0.2,by simp,if_num (fun n2=>⟨hk.1,hk.2,by trivial,?_⟩) (fun n2=>if_num (fun n5=>if_num (fun n5'=>⟨by trivial,?_⟩) (fun n5'=>absurd n5 n5')) (fun n5=>if_num (fun n6=>⟨by trivial,?_⟩) (fun n6=>⟨hk,by simp,if_cond (fun h=> ?_) (fun h=> ?_)⟩)))⟩
 ·exact LdAct (a:=⟨actK c,noBytes,[],belowV (intC c iLact) pats,noBytes⟩) (d:=belowC (intC c iLact) pats) (if_pos n2).symm (if_pos n2).symm
 ·exact LdAct (a:=⟨actK c,noBytes,[],0,noBytes⟩) (d:=intC c iLact) ((if_neg n2).trans (if_pos (.inl n5))).symm ((if_neg n2).trans (if_pos (.inl n5))).symm
 ·exact LdAct (a:=⟨actK c,noBytes,[],0,noBytes⟩) (d:=intC c iLact) ((if_neg n2).trans (if_pos (.inr n6))).symm ((if_neg n2).trans (if_pos (.inr n6))).symm
 all_goals
  have hN:=h2 h
  simp only[if_true,zbg,if_false] at hN
  clear h
  have n56:¬(actK c=5∨actK c=6):=fun e=>e.elim n5 n6
  obtain⟨hA,hC⟩:=rest n2 n56
  rw[hA,hC]
  refine⟨fin,?_⟩
  rintro⟨i,⟨r1,r2,r3,r4,r5,⟨⟩⟩,⟨p1,p2,p3,p4,p5,⟨⟩⟩,⟨cb,ci,ch,⟨⟩⟩,⟨⟩⟩ ⟨g1,g2,g3,g4,g5,g6,g7,g8,g9,g10⟩
  simp only at g1 g2 g3 g4 g5 g6 g7 g8 g9 g10⊢
  subst g3 g4 g5 g6
  refine if_dec (fun hc=> ?_) (fun hc=> ?_)
  ·have e:(actN c-i).toNat=(actN c-(i+1)).toNat+1:=by omega
   rw[e] at g9 g10
   rw[wrap_i64 (by omega) (by omega)]
   exact⟨g7,by simp only[zbq,zbo];omega,⟨by omega,by omega,rfl,rfl,rfl,rfl,cOk_expr g7,by simp only[zce,zbq,zbo];omega,g9,g10⟩,by simp only[Zm65_14];omega⟩
  ·have e:(actN c-i).toNat=0:=by omega
   rw[e] at g9 g10
   have g9:p3=actAs c:=g9
   have g10:(⟨cb,ci,ch⟩:DCur)=actC3 c:=g10
   have e1:cb=(actC3 c).b:=congrArg DCur.b g10
   have e2:ci=(actC3 c).i:=congrArg DCur.i g10
   have e3:ch=(actC3 c).h:=congrArg DCur.h g10
   subst g9 e1 e2 e3
   have k3:=cOk_act3 hp0
   refine if_num (fun h4=>⟨k3.1,k3.2,by simp,if_num (fun h3=>absurd (h4.symm.trans h3) (by decide)) (fun h3=>⟨by trivial,?_⟩)⟩) (fun h4=>if_num (fun h3=>⟨k3,if_cond (fun ho=>⟨cOk_below k3 _,by simp,by trivial,?_⟩) (fun ho=>⟨by trivial,?_⟩)⟩) (fun h3=>⟨by trivial,?_⟩))
   ·have eT:actT c=intV (actC3 c) iLtime:=if_pos h4
    have eU:actU c=noBytes:=if_neg (fun e=>h3 e.1)
    have e5:actC5 c=intC (actC3 c) iLtime:=(if_neg h3).trans (if_pos h4)
    exact LdAct (a':=⟨actK c,actName c,actAs c,actT c,actU c⟩) (d':=actC5 c) (a:=⟨actK c,actName c,actAs c,intV (actC3 c) iLtime,noBytes⟩) (d:=intC (actC3 c) iLtime) (by rw[eT,eU]) e5.symm
   ·have eT:actT c=0:=if_neg h4
    have e4:actC4 c=actC3 c:=if_neg h4
    have ho:onceV (actC4 c) 2=true:=by rw[e4];exact ho
    have eU:actU c=strV (belowC (actC4 c) 2) sLundo:=if_pos ⟨h3,ho⟩
    have e5:actC5 c=strC (belowC (actC4 c) 2) sLundo:=(if_pos h3).trans (if_pos ho)
    exact LdAct (a':=⟨actK c,actName c,actAs c,actT c,actU c⟩) (d':=actC5 c) (a:=⟨actK c,actName c,actAs c,0,strV (belowC (actC3 c) 2) sLundo⟩) (d:=strC (belowC (actC3 c) 2) sLundo) (by rw[eT,eU,e4]) (by rw[e5,e4])
   ·have eT:actT c=0:=if_neg h4
    have e4:actC4 c=actC3 c:=if_neg h4
    have ho:¬onceV (actC4 c) 2=true:=by rw[e4,show onceV (actC3 c) 2=false from ho];decide
    have eU:actU c=noBytes:=if_neg (fun e=>ho e.2)
    have e5:actC5 c=belowC (actC4 c) 2:=(if_pos h3).trans (if_neg ho)
    exact LdAct (a':=⟨actK c,actName c,actAs c,actT c,actU c⟩) (d':=actC5 c) (a:=⟨actK c,actName c,actAs c,0,noBytes⟩) (d:=belowC (actC3 c) 2) (by rw[eT,eU]) (by rw[e5,e4])
   ·have eT:actT c=0:=if_neg h4
    have eU:actU c=noBytes:=if_neg (fun e=>h3 e.1)
    have e5:actC5 c=actC3 c:=(if_neg h3).trans (if_neg h4)
    exact LdAct (a':=⟨actK c,actName c,actAs c,actT c,actU c⟩) (d':=actC5 c) (a:=⟨actK c,actName c,actAs c,0,noBytes⟩) (d:=actC3 c) (by rw[eT,eU]) e5.symm
def Zh65:HH:=⟨_,Zo65⟩
def Zk64:Con UU where
 α:=DArg×(List ByteArray)
 md:=[.ro,.ro]
 of:=oC (oA .eArg) (o1 (oL .str))
 ds:=fun x=>[dA .eArg x.1,dL .str x.2]
 pre:=fun _=>[]
 res:=fun(a,vars)=>⟨[dA .eArg (fitT vars a)],true,[]⟩
 law:=lC (lA .eArg) (l1 (lL .str))
def Za64:Zk64.α→Nat→Option (Ann UU):=fun(a,vars)=>annL []
def Zu64:=us [Zh93,Zh94,Zh95]
theorem Zo64:Holds EE (64,Zk64):=by
 refine holds_of EE_ok func64 Zk64 (by kernel_rfl) Zu64 (us_ok _) Za64 (fun x hp hb=> ?_)
 obtain⟨a,vars⟩:=x
 have hz0:=bd_eArg (x:=a) (hb _ m0)
 have hl_a_S:=hz0.1
 have hl_a_V_S:=hz0.2
 have hl_vars:vars.length≤9223372036854775807:=bdL (hb _ m1)
 clear hp hb
 apply @ve _ (bif knownIn vars a then Lf [DV.agg [CI a.K,CS a.S,CI a.V.K,CI a.V.N,CS a.V.S]] [DV.agg [CI ((fitT vars a).K),CS ((fitT vars a).S),CI ((fitT vars a).V.K),CI ((fitT vars a).V.N),CS ((fitT vars a).V.S)]] else bif (vars.length:Int)==(0:Int) then Lf [DV.agg [CI (2:Int),CS noBytes,CI (1:Int),CI (1:Int),CS ({data:= #[]:ByteArray})]] [DV.agg [CI ((fitT vars a).K),CS ((fitT vars a).S),CI ((fitT vars a).V.K),CI ((fitT vars a).V.N),CS ((fitT vars a).V.S)]] else(0:Int)≤(0:Int)∧Int.toNat (0:Int)<vars.length∧Lf [DV.agg [CI (1:Int),CS (List.getD vars (Int.toNat (0:Int)) noBytes),CI zVal.K,CI zVal.N,CS zVal.S]] [DV.agg [CI ((fitT vars a).K),CS ((fitT vars a).S),CI ((fitT vars a).V.K),CI ((fitT vars a).V.N),CS ((fitT vars a).V.S)]]) (by kernel_rfl)
 refine if_cond (fun h=> ?_) (fun h=> ?_)
 ·have e:fitT vars a=a:=if_pos h
  rw[e];exact Lf_rfl _
 have h:¬knownIn vars a=true:=by rw[h];decide
 refine if_num (fun g=> ?_) (fun g=>⟨by omega,?_,?_⟩)
 ·have e:fitT vars a=⟨2,noBytes,⟨1,1,noBytes⟩⟩:=(if_neg h).trans (if_pos (by omega))
  rw[e];exact Lf_rfl _
 ·show 0<vars.length
  omega
 ·have e:fitT vars a=⟨1,List.getD vars 0 noBytes,zVal⟩:=(if_neg h).trans (if_neg (by omega))
  rw[e];exact Lf_rfl _
def Zh64:HH:=⟨_,Zo64⟩
def assertD(s:DStore)(f:DFact):DStore:=if 0<idOf s.Items f then s else⟨s.Items++[⟨s.Next,f⟩],s.Next+1⟩
def assertN(s:DStore)(f:DFact):Int:=if 0<idOf s.Items f then idOf s.Items f else s.Next
def notId(id:Int)(x:DItem):Bool:= !decide (x.Id=id)
def dropS(s:DStore)(id:Int):DStore:=⟨s.Items.filter (notId id),s.Next⟩
def storeL:Nat→DStore→DCur→DStore
 |0,s,_=>s
 |k+1,s,c=>if onceV c 5=true∧0<s.Items.length then storeL k (dropS s (List.getD s.Items (belowV (belowC c 5) s.Items.length).toNat zItem).Id) (belowC (belowC c 5) s.Items.length) else storeL k (assertD s (factV (belowC c 5))) (factC (belowC c 5))
def storeLC:Nat→DStore→DCur→DCur
 |0,_,c=>c
 |k+1,s,c=>if onceV c 5=true∧0<s.Items.length then storeLC k (dropS s (List.getD s.Items (belowV (belowC c 5) s.Items.length).toNat zItem).Id) (belowC (belowC c 5) s.Items.length) else storeLC k (assertD s (factV (belowC c 5))) (factC (belowC c 5))
def storeD(c:DCur):DStore:=storeL (belowV c 9).toNat ⟨[],1⟩ (belowC c 9)
def storeDC(c:DCur):DCur:=storeLC (belowV c 9).toNat ⟨[],1⟩ (belowC c 9)
theorem drop_len(s:DStore)(id:Int):(dropS s id).Items.length≤s.Items.length:=zdt _ _
theorem assertD_len(s:DStore)(f:DFact):(assertD s f).Items.length≤s.Items.length+1∧s.Next≤(assertD s f).Next∧(assertD s f).Next≤s.Next+1:=by
 unfold assertD;split
 ·omega
 ·simp only[zce,zbq,zbo];omega
theorem storeL_len:∀(k:Nat)(s:DStore)(c:DCur),(storeL k s c).Items.length≤s.Items.length+k
 |0,s,c=>by simp[storeL]
 |k+1,s,c=>by
  unfold storeL;split
  ·have:=storeL_len k (dropS s (List.getD s.Items (belowV (belowC c 5) s.Items.length).toNat zItem).Id) (belowC (belowC c 5) s.Items.length)
   have:=drop_len s (List.getD s.Items (belowV (belowC c 5) s.Items.length).toNat zItem).Id
   omega
  ·have:=storeL_len k (assertD s (factV (belowC c 5))) (factC (belowC c 5))
   have:=(assertD_len s (factV (belowC c 5))).1
   omega
theorem storeD_len(c:DCur):(storeD c).Items.length≤8:=by
 have:=storeL_len (belowV c 9).toNat ⟨[],1⟩ (belowC c 9)
 have:=belowV_lt (c:=c) (n:=9) (by omega)
 simp only[zbo] at*
 unfold storeD;omega
theorem cOk_storeL:∀{k:Nat}{s:DStore}{c:DCur},cOk c→cOk (storeLC k s c)
 |0,_,_,h=>h
 |k+1,s,c,h=>by
  unfold storeLC;split
  ·exact cOk_storeL (k:=k) (cOk_below (cOk_below h _) _)
  ·exact cOk_storeL (k:=k) (cOk_fact (cOk_below h _))
theorem cOk_storeD{c:DCur}(h:cOk c):cOk (storeDC c):=cOk_storeL (cOk_below h _)
theorem mod_mid{α:Type}(g:α→α)(e:α)(B:List α):∀A:List α,(A++e::B).modify A.length g=A++g e::B
 |[]=>rfl
 |a::A=>by
  show(a::(A++e::B)).modify (A.length+1) g=a::(A++g e::B)
  rw[List.modify_succ_cons,mod_mid g e B A]
def fitAt(vars:List ByteArray)(xs:List DExpr)(k:Nat):List DExpr:=(xs.take k).map (fitE vars)++xs.drop k
theorem fitAt_len(vars:List ByteArray)(xs:List DExpr){k:Nat}(h:k≤xs.length):(fitAt vars xs k).length=xs.length:=by
 simp only[fitAt,zce,zco,zaw,zcs];omega
theorem fitAt_mid{vars:List ByteArray}{xs:List DExpr}{k:Nat}(h:k<xs.length):fitAt vars xs k=(xs.take k).map (fitE vars)++List.getD xs k zExpr::xs.drop (k+1):=by
 have hd:xs.drop k=List.getD xs k zExpr::xs.drop (k+1):=by
  rw[zel h,zac,zad h];rfl
 rw[fitAt,hd]
theorem fitAt_mod{vars:List ByteArray}{xs:List DExpr}{k:Nat}(h:k<xs.length)(g:DExpr→DExpr):(fitAt vars xs k).modify k g=(xs.take k).map (fitE vars)++g (List.getD xs k zExpr)::xs.drop (k+1):=by
 have hk:((xs.take k).map (fitE vars)).length=k:=by rw[zco,zaw];omega
 rw[fitAt_mid h]
 have:=mod_mid g (List.getD xs k zExpr) (xs.drop (k+1)) ((xs.take k).map (fitE vars))
 rwa[hk] at this
theorem fitAt_mod2{vars:List ByteArray}{xs:List DExpr}{k:Nat}(h:k<xs.length)(g g':DExpr→DExpr):((fitAt vars xs k).modify k g).modify k g'=(xs.take k).map (fitE vars)++g' (g (List.getD xs k zExpr))::xs.drop (k+1):=by
 have hk:((xs.take k).map (fitE vars)).length=k:=by rw[zco,zaw];omega
 rw[fitAt_mod h]
 have:=mod_mid g' (g (List.getD xs k zExpr)) (xs.drop (k+1)) ((xs.take k).map (fitE vars))
 rwa[hk] at this
theorem fitAt_next{vars:List ByteArray}{xs:List DExpr}{k:Nat}(h:k<xs.length):(xs.take k).map (fitE vars)++fitE vars (List.getD xs k zExpr)::xs.drop (k+1)=fitAt vars xs (k+1):=by
 rw[fitAt,takeStep zExpr h,zef];simp
theorem fitAt_get{vars:List ByteArray}{xs:List DExpr}{k:Nat}(h:k<xs.length):List.getD (fitAt vars xs k) k zExpr=List.getD xs k zExpr:=by
 have hk:((xs.take k).map (fitE vars)).length=k:=by rw[zco,zaw];omega
 rw[fitAt_mid h,zac,zap (by omega),hk,zev];rfl
theorem fitAt_getm{vars:List ByteArray}{xs:List DExpr}{k:Nat}(h:k<xs.length)(g:DExpr→DExpr):List.getD ((fitAt vars xs k).modify k g) k zExpr=g (List.getD xs k zExpr):=by
 rw[mod_self _ (by rw[fitAt_len _ _ (by omega)];exact h),fitAt_get h]
theorem ruP_args(c:DCur):(∀p,p∈ruPats c→p.Args.length≤2)∧(ruPats c).length≤4:=by
 have h1:∀(b:Bool)(d:DCur),(patD b d).Args.length≤2:=fun b d=>by
  have:=patN_le d
  show(iterL _ _ _ _ _).length≤2
  rw[iterL_len];simp only[zbo];omega
 have h2:=iterL_all (f:=patD false) (g:=patDC) (fun p=>p.Args.length≤2) (h1 false) (ruN c).toNat [] (ruC2 c) (fun x hx=>by cases hx)
 have h3:=iterL_len (patD false) patDC (ruN c).toNat [] (ruC2 c)
 have h4:=ruN_le c
 unfold ruPats
 split
 ·refine⟨fun p hp=> ?_,?_⟩
  ·rcases zao.1 hp with hp|hp
   ·exact h2 p hp
   ·rw[zau] at hp;subst hp;exact h1 true _
  ·simp only[ruP1,zce,zbq,zbo] at h3⊢;omega
 ·exact⟨h2,by simp only[ruP1,zbo] at h3⊢;omega⟩
theorem patArgs_small:∀{ps:List DPat},(∀p,p∈ps→p.Args.length≤2)→patArgs ps≤2*ps.length
 |[],_=>zca _
 |p::ps,h=>by
  have h1:=h p (by simp)
  have h2:=patArgs_small (ps:=ps) (fun q hq=>h q (by simp[hq]))
  simp only[patArgs,zbt,zdc,zbq] at h2⊢;omega
theorem LdR{a a':DRule}{d d':DCur}(h1:a=a')(h2:d=d'):asD [DV.agg [.lit (.string a.Name),.lit (.int .i64 a.Sal),.sl .ePat a.Pats,.sl .eCond a.Conds,.sl .eAct a.Acts]]=asD [DV.agg [.lit (.string a'.Name),.lit (.int .i64 a'.Sal),.sl .ePat a'.Pats,.sl .eCond a'.Conds,.sl .eAct a'.Acts]]∧asD [DV.box [.sl .byte d.b,.lit (.int .i64 d.i),.lit (.int .i64 d.h)]]=asD [DV.box [.sl .byte d'.b,.lit (.int .i64 d'.i),.lit (.int .i64 d'.h)]]:=by
 subst h1 h2;exact⟨rfl,rfl⟩
theorem LdS{a a':DStore}{d d':DCur}(h1:a=a')(h2:d=d'):asD [DV.agg [.sl .eItem a.Items,.lit (.int .i64 a.Next)]]=asD [DV.agg [.sl .eItem a'.Items,.lit (.int .i64 a'.Next)]]∧asD [DV.box [.sl .byte d.b,.lit (.int .i64 d.i),.lit (.int .i64 d.h)]]=asD [DV.box [.sl .byte d'.b,.lit (.int .i64 d'.i),.lit (.int .i64 d'.h)]]:=by
 subst h1 h2;exact⟨rfl,rfl⟩
def Zk41:Con UU where
 α:=DStore×Int
 md:=[.box true,.ro]
 of:=oC (oX .eStore) (o1 oI)
 ds:=fun x=>[dX .eStore x.1,dI x.2]
 pre:=fun(s,id)=>[s.Items.length≤1000]
 res:=fun(s,id)=>⟨[dO (decide ((dropS s id).Items.length<s.Items.length))],true,[dX .eStore (dropS s id)]⟩
 law:=lC (lX .eStore) (l1 lI)
def Zi41_3(s:DStore)(id:Int):List DItem×Int×((List DItem×(Nat→Bool))×Int×Unit)×Unit→Prop:=fun(o,i,p,_)=>p.1.1=s.Items∧p.2.1=s.Next∧0≤i∧i≤s.Items.length∧(∀j:Nat,i≤(j:Int)→p.1.2 j=false)∧o=(s.Items.take i.toNat).filter (notId id)
def Zm41_3(s:DStore)(id:Int):List DItem×Int×((List DItem×(Nat→Bool))×Int×Unit)×Unit→Nat:=fun(o,i,p,_)=>s.Items.length-i.toNat
def Za41:Zk41.α→Nat→Option (Ann UU):=fun(s,id)=>annL [(3,annOf [.slot 5 (5,1024) (.own .eItem true),.slot 6 (6,1024) (.lit (.int .i64)),.box 0 (2000000,0) [.part .eItem,.lit (.int .i64)]] (fun _=>Zi41_3 s id) (Zm41_3 s id))]
def Zu41:List (FuncId×Con UU):=[]
theorem Zo41:Holds EE (41,Zk41):=by
 refine holds_of EE_ok func41 Zk41 (by kernel_rfl) Zu41 all_nil Za41 (fun x hp hb=> ?_)
 obtain⟨s,id⟩:=x
 have hl_s_Items:=bdX_eStore (x:=s) (hb _ m0)
 have hl_id:=bdI (n:=id) (hb _ m1)
 have hp0:s.Items.length≤1000:=hp _ m0
 clear hp hb
 apply @ve _ (Zi41_3 s id ([],(0:Int),((s.Items,fun(x:Nat)=>false),s.Next,()),())∧∀(y:List DItem×Int×((List DItem×(Nat→Bool))×Int×PUnit)×PUnit),let x1:Nat:=y.2.1.toNat;let x3:DItem:=List.getD y.2.2.1.1.1 x1 zItem;let x4:Nat:=y.2.2.1.1.1.length;let x5:Int:=IntKind.wrap IntKind.i64 (y.2.1+(1:Int));let x0:Int:=(↑x4:Int);let x2:List DItem:=[x3];Zi41_3 s id y→bif decide (y.2.1<x0) then(0:Int)≤y.2.1∧x1<x4∧x1<x4∧y.2.2.1.1.2 x1=false∧bif x3.Id !=id then(0:Int)≤y.2.1∧x1<x4∧x1<x4∧y.2.2.1.1.2 x1=false∧y.1.length+x2.length≤(4294967296:Nat)∧Zi41_3 s id (y.1++x2,x5,((y.2.2.1.1.1,fun(j:Nat)=>Nat.beq j x1||y.2.2.1.1.2 j),y.2.2.1.2.1,()),())∧Zm41_3 s id (y.1++x2,x5,((y.2.2.1.1.1,fun(j:Nat)=>Nat.beq j x1||y.2.2.1.1.2 j),y.2.2.1.2.1,()),())<Zm41_3 s id y else Zi41_3 s id (y.1,x5,((y.2.2.1.1.1,y.2.2.1.1.2),y.2.2.1.2.1,()),())∧Zm41_3 s id (y.1,x5,((y.2.2.1.1.1,y.2.2.1.1.2),y.2.2.1.2.1,()),())<Zm41_3 s id y else(0:Nat)=(0:Nat)∧asD [VB (decide ((y.1.length:Int)<x0))]=asD [VB (decide (List.length (dropS s id).Items<s.Items.length))]∧asD [DV.box [CL .eItem y.1,CI y.2.2.1.2.1]]=asD [DV.box [CL .eItem (dropS s id).Items,CI ((dropS s id).Next)]]) (by kernel_rfl)
 dsimp only
 refine⟨⟨rfl,rfl,by omega,by omega,fun _ _=>rfl,by simp⟩,?_⟩
 rintro⟨o,i,⟨⟨xs,dd⟩,nx,⟨⟩⟩,⟨⟩⟩ ⟨hx,hn,h1,h2,hd,ho⟩
 simp only at hx hn h1 h2 hd ho⊢
 subst hx hn ho
 refine if_dec (fun hc=> ?_) (fun hc=> ?_)
 ·have hs:=filterStep (notId id) (l:=s.Items) (i:=i.toNat) zItem (by omega)
  have e:(i+1).toNat=i.toNat+1:=by omega
  have hdk:=hd i.toNat (by omega)
  have hle:((s.Items.take i.toNat).filter (notId id)).length≤(s.Items.take i.toNat).length:=zdt _ _
  rw[zaw] at hle
  rw[wrap_i64 (by omega) (by omega)]
  refine⟨h1,by omega,by omega,hdk,if_neq (fun g=>⟨h1,by omega,by omega,hdk,by simp only[zbq,zbo];omega,⟨rfl,rfl,by omega,by omega,dead_step h1 hd,?_⟩,by simp only[Zm41_3];omega⟩) (fun g=>⟨⟨rfl,rfl,by omega,by omega,fun j hj=>hd j (by omega),?_⟩,by simp only[Zm41_3];omega⟩)⟩
  ·rw[e,hs,if_pos (show notId id (List.getD s.Items i.toNat zItem)=true by rw[notId,decide_eq_false g];rfl)]
  ·rw[e,hs,if_neg (show¬notId id (List.getD s.Items i.toNat zItem)=true by rw[notId,decide_eq_true g];decide),zch]
 ·rw[take_all s.Items (by omega)]
  have e:decide (((s.Items.filter (notId id)).length:Int)<(s.Items.length:Int))=decide ((dropS s id).Items.length<s.Items.length):=by rw[decide_eq_decide];simp only[dropS];omega
  rw[e];exact⟨by trivial,rfl,rfl⟩
def Zh41:HH:=⟨_,Zo41⟩
def Zk42:Con UU where
 α:=DStore×DFact
 md:=[.box true,.ro]
 of:=oC (oX .eStore) (o1 (oA .eFact))
 ds:=fun x=>[dX .eStore x.1,dA .eFact x.2]
 pre:=fun(s,f)=>[0≤s.Next∧s.Next≤1000∧s.Items.length≤30,f.Fields.length≤4294967296]
 res:=fun(s,f)=>⟨[dI (assertN s f)],true,[dX .eStore (assertD s f)]⟩
 law:=lC (lX .eStore) (l1 (lA .eFact))
def Za42:Zk42.α→Nat→Option (Ann UU):=fun(s,f)=>annL []
def Zu42:=us [Zh67,Zh68]
theorem Zo42:Holds EE (42,Zk42):=by
 refine holds_of EE_ok func42 Zk42 (by kernel_rfl) Zu42 (us_ok _) Za42 (fun x hp hb=> ?_)
 obtain⟨s,f⟩:=x
 have hl_s_Items:=bdX_eStore (x:=s) (hb _ m0)
 have hz1:=bd_eFact (x:=f) (hb _ m1)
 have hl_f_Kind:=hz1.1
 have hl_f_Fields:=hz1.2
 have hp0:0≤s.Next∧s.Next≤1000∧s.Items.length≤30:=hp _ m0
 have hp1:f.Fields.length≤4294967296:=hp _ m1
 clear hp hb
 apply @ve _ (bif decide (idOf s.Items f>(0:Int)) then(0:Nat)=(0:Nat)∧asD [VI (idOf s.Items f)]=asD [VI (assertN s f)]∧asD [DV.box [CL .eItem s.Items,CI s.Next]]=asD [DV.box [CL .eItem (assertD s f).Items,CI ((assertD s f).Next)]] else bif decide ((s.Items.length:Int)≥(40:Int)) then(0:Nat)=(0:Nat)∧asD [VI (0:Int)]=asD [VI (assertN s f)]∧asD [DV.box [CL .eItem s.Items,CI s.Next]]=asD [DV.box [CL .eItem (assertD s f).Items,CI ((assertD s f).Next)]] else bif decide (s.Next≥(1000000:Int)) then(0:Nat)=(0:Nat)∧asD [VI (0:Int)]=asD [VI (assertN s f)]∧asD [DV.box [CL .eItem s.Items,CI s.Next]]=asD [DV.box [CL .eItem (assertD s f).Items,CI ((assertD s f).Next)]] else f.Fields.length≤(4294967296:Nat)∧s.Items.length+List.length [{Id:=s.Next,F:=f:DItem}]≤(4294967296:Nat)∧(0:Nat)=(0:Nat)∧asD [VI (IntKind.wrap IntKind.i64 (IntKind.wrap IntKind.i64 (s.Next+(1:Int))-(1:Int)))]=asD [VI (assertN s f)]∧asD [DV.box [CL .eItem (s.Items++[{Id:=s.Next,F:=f:DItem}]),CI (IntKind.wrap IntKind.i64 (s.Next+(1:Int)))]]=asD [DV.box [CL .eItem (assertD s f).Items,CI ((assertD s f).Next)]]) (by kernel_rfl)
 obtain⟨s1,s2,s3⟩:=hp0
 refine if_dec (fun h=>⟨by trivial,?_⟩) (fun h=>if_dec (fun h2=>absurd h2 (by omega)) (fun h2=>if_dec (fun h3=>absurd h3 (by omega)) (fun h3=> ?_)))
 ·have e1:assertD s f=s:=if_pos h
  have e2:assertN s f=idOf s.Items f:=if_pos h
  rw[e1,e2];exact⟨rfl,rfl⟩
 ·have e1:assertD s f=⟨s.Items++[⟨s.Next,f⟩],s.Next+1⟩:=if_neg h
  have e2:assertN s f=s.Next:=if_neg h
  rw[e1,e2,wrap_i64 (n:=s.Next+1) (by omega) (by omega),wrap_i64 (by omega) (by omega),show s.Next+1-1=s.Next by omega]
  exact⟨hp1,by simp only[zbq,zbo];omega,by trivial,rfl,rfl⟩
def Zh42:HH:=⟨_,Zo42⟩
def Zk17:Con UU where
 α:=DCur
 md:=[.box false]
 of:=fun|[.box [.sl .byte a0,.lit (.int .i64 a1),.lit (.int .i64 a2)]]=>some ⟨a0,a1,a2⟩|_=>none
 ds:=fun c=>[.box [.sl .byte c.b,.lit (.int .i64 c.i),.lit (.int .i64 c.h)]]
 pre:=fun c=>[cOk c]
 res:=fun c=>⟨[.agg [.sl .eItem ((storeD c)).Items,.lit (.int .i64 ((storeD c)).Next)]],true,[.box [.sl .byte ((storeDC c)).b,.lit (.int .i64 ((storeDC c)).i),.lit (.int .i64 ((storeDC c)).h)]]⟩
 law:=by intro l x h;(try simp only at h);split at h<;>cases h;rfl
def Zi17_3(c:DCur):Int×(List DItem×Int×Unit)×(List DItem×Int×Unit)×(List Int×Int×Int×Unit)×Unit→Prop:=fun(i,q,s,cu,_)=>0≤i∧i≤8∧s.1.length+i≤8∧0≤s.2.1∧s.2.1+i≤9∧cOk ⟨cu.1,cu.2.1,cu.2.2.1⟩∧storeL i.toNat ⟨s.1,s.2.1⟩ ⟨cu.1,cu.2.1,cu.2.2.1⟩=storeD c∧storeLC i.toNat ⟨s.1,s.2.1⟩ ⟨cu.1,cu.2.1,cu.2.2.1⟩=storeDC c
def Zm17_3(c:DCur):Int×(List DItem×Int×Unit)×(List DItem×Int×Unit)×(List Int×Int×Int×Unit)×Unit→Nat:=fun(i,q,s,cu,_)=>i.toNat
def Za17:Zk17.α→Nat→Option (Ann UU):=fun c=>annL [(3,annOf [.slot 4 (4,1024) (.lit (.int .i64)),.box 2 (2,1024) [.own .eItem true,.lit (.int .i64)],.box 3 (3,1024) [.own .eItem true,.lit (.int .i64)],.box 0 (2000000,0) [.shr .byte,.lit (.int .i64),.lit (.int .i64)]] (fun _=>Zi17_3 c) (Zm17_3 c))]
def Zu17:=us [Zh20,Zh19,Zh41,Zh42,Zh30]
theorem Zo17:Holds EE (17,Zk17):=by
 refine holds_of EE_ok func17 Zk17 (by kernel_rfl) Zu17 (us_ok _) Za17 (fun(c:DCur) hp hb=> ?_)
 have hb_c:BdDV (U:=UU) (.box [.sl .byte c.b,.lit (.int .i64 c.i),.lit (.int .i64 c.h)]):=hb _ (zab)
 have hl_c_b:c.b.length≤9223372036854775807:=Bd.len (U:=UU) (τ:=.byte) (xs:=c.b) (hb_c _ (by simp))
 have hp0:cOk c:=hp _ (zab)
 clear hp hb
 apply @ve _ ((0:Int)≤c.i∧c.b.length≤(4294967296:Nat)∧Zi17_3 c (belowV c (9:Int),([],(0:Int),()),([],(1:Int),()),((belowC c (9:Int)).b,(belowC c (9:Int)).i,(belowC c (9:Int)).h,()),())∧∀(y:Int×(List DItem×Int×PUnit)×(List DItem×Int×PUnit)×(List Int×Int×Int×PUnit)×PUnit),let x1:DCur:={b:=y.2.2.2.1.1,i:=y.2.2.2.1.2.1,h:=y.2.2.2.1.2.2.1:DCur};let x4:Nat:=y.2.2.1.1.length;let x6:DStore:={Items:=y.2.2.1.1,Next:=y.2.2.1.2.1:DStore};let x0:DCur:=belowC x1 (5:Int);let x3:Int:=(↑x4:Int);let x5:DStore:=assertD x6 (factV x0);let x2:DStore:=dropS x6 (List.getD y.2.2.1.1 (Int.toNat (belowV x0 x3)) zItem).Id;Zi17_3 c y→bif decide (y.1>(0:Int)) then cOk x1∧bif onceV x1 (5:Int) then bif decide (x3>(0:Int)) then(0:Int)≤x0.i∧x0.b.length≤(4294967296:Nat)∧(0:Int)≤belowV x0 x3∧Int.toNat (belowV x0 x3)<x4∧Int.toNat (belowV x0 x3)<x4∧x4≤(1000:Nat)∧Zi17_3 c (IntKind.wrap IntKind.i64 (y.1-(1:Int)),(y.2.1.1,y.2.1.2.1,()),(x2.Items,x2.Next,()),((belowC x0 x3).b,(belowC x0 x3).i,(belowC x0 x3).h,()),())∧Zm17_3 c (IntKind.wrap IntKind.i64 (y.1-(1:Int)),(y.2.1.1,y.2.1.2.1,()),(x2.Items,x2.Next,()),((belowC x0 x3).b,(belowC x0 x3).i,(belowC x0 x3).h,()),())<Zm17_3 c y else cOk x0∧((0:Int)≤y.2.2.1.2.1∧y.2.2.1.2.1≤(1000:Int)∧x4≤(30:Nat))∧List.length (factV x0).Fields≤(4294967296:Nat)∧Zi17_3 c (IntKind.wrap IntKind.i64 (y.1-(1:Int)),(y.2.1.1,y.2.1.2.1,()),(x5.Items,x5.Next,()),((factC x0).b,(factC x0).i,(factC x0).h,()),())∧Zm17_3 c (IntKind.wrap IntKind.i64 (y.1-(1:Int)),(y.2.1.1,y.2.1.2.1,()),(x5.Items,x5.Next,()),((factC x0).b,(factC x0).i,(factC x0).h,()),())<Zm17_3 c y else cOk x0∧((0:Int)≤y.2.2.1.2.1∧y.2.2.1.2.1≤(1000:Int)∧x4≤(30:Nat))∧List.length (factV x0).Fields≤(4294967296:Nat)∧Zi17_3 c (IntKind.wrap IntKind.i64 (y.1-(1:Int)),(y.2.1.1,y.2.1.2.1,()),(x5.Items,x5.Next,()),((factC x0).b,(factC x0).i,(factC x0).h,()),())∧Zm17_3 c (IntKind.wrap IntKind.i64 (y.1-(1:Int)),(y.2.1.1,y.2.1.2.1,()),(x5.Items,x5.Next,()),((factC x0).b,(factC x0).i,(factC x0).h,()),())<Zm17_3 c y else(0:Nat)=(0:Nat)∧asD [DV.agg [CL .eItem y.2.2.1.1,CI y.2.2.1.2.1]]=asD [DV.agg [CL .eItem (storeD c).Items,CI ((storeD c).Next)]]∧asD [DV.box [CL .byte y.2.2.2.1.1,CI y.2.2.2.1.2.1,CI y.2.2.2.1.2.2.1]]=asD [DV.box [CL .byte (storeDC c).b,CI ((storeDC c).i),CI ((storeDC c).h)]]) (by kernel_rfl)
 dsimp only
 have hb:=belowV_lt (c:=c) (n:=9) (by omega)
 refine⟨hp0.1,hp0.2,⟨by omega,by omega,by simp only[zbo];omega,by show(0:Int)≤1;omega,by show(1:Int)+belowV c 9≤9;omega,cOk_below hp0 9,rfl,rfl⟩,?_⟩
 rintro⟨i,⟨q1,q2,⟨⟩⟩,⟨s1,s2,⟨⟩⟩,⟨cb,ci,ch,⟨⟩⟩,⟨⟩⟩ ⟨g1,g2,g3,g4,g5,g6,g7,g8⟩
 simp only at g1 g2 g3 g4 g5 g6 g7 g8⊢
 refine if_dec (fun hc=> ?_) (fun hc=> ?_)
 ·have e:i.toNat=(i-1).toNat+1:=by omega
  rw[e] at g7 g8
  simp only[storeL,storeLC] at g7 g8
  have hB:=cOk_below g6 5
  have hF:=factV_len (belowC ⟨cb,ci,ch⟩ 5)
  have hF2:=factN_le (belowC ⟨cb,ci,ch⟩ 5)
  have hA:=assertD_len ⟨s1,s2⟩ (factV (belowC ⟨cb,ci,ch⟩ 5))
  simp only at hA
  rw[wrap_i64 (by omega) (by omega)]
  refine⟨g6,if_cond (fun a=>if_dec (fun b=> ?_) (fun b=> ?_)) (fun a=> ?_)⟩
  ·rw[if_pos ⟨a,by omega⟩] at g7 g8
   have hk:=belowV_lt (c:=belowC ⟨cb,ci,ch⟩ 5) (n:=(s1.length:Int)) (by omega)
   have hD:=drop_len ⟨s1,s2⟩ (List.getD s1 (belowV (belowC ⟨cb,ci,ch⟩ 5) s1.length).toNat zItem).Id
   simp only at hD
   exact⟨hB.1,hB.2,hk.1,by omega,by omega,by omega,⟨by omega,by omega,by simp only;omega,g4,by simp only[dropS];omega,cOk_below hB _,g7,g8⟩,by simp only[Zm17_3];omega⟩
  ·rw[if_neg (fun e=>b (by omega))] at g7 g8
   exact⟨hB,⟨g4,by omega,by omega⟩,by omega,⟨by omega,by omega,by simp only;omega,by simp only;omega,by simp only;omega,cOk_fact hB,g7,g8⟩,by simp only[Zm17_3];omega⟩
  ·rw[if_neg (fun e=>absurd e.1 (by rw[a];decide))] at g7 g8
   exact⟨hB,⟨g4,by omega,by omega⟩,by omega,⟨by omega,by omega,by simp only;omega,by simp only;omega,by simp only;omega,cOk_fact hB,g7,g8⟩,by simp only[Zm17_3];omega⟩
 ·have e:i.toNat=0:=by omega
  rw[e] at g7 g8
  exact⟨by trivial,LdS (a:=⟨s1,s2⟩) (d:=⟨cb,ci,ch⟩) g7 g8⟩
def Zh17:HH:=⟨_,Zo17⟩
def Zk39:Con UU where
 α:=DCur×ByteArray
 md:=[.box false,.ro]
 of:=fun|[.box [.sl .byte a0,.lit (.int .i64 a1),.lit (.int .i64 a2)],.one (.lit (.string a3))]=>some (⟨a0,a1,a2⟩,a3)|_=>none
 ds:=fun(c,name)=>[.box [.sl .byte c.b,.lit (.int .i64 c.i),.lit (.int .i64 c.h)],.one (.lit (.string name))]
 pre:=fun(c,name)=>[cOk c]
 res:=fun(c,name)=>⟨[.agg [.lit (.string ((ruleD name c)).Name),.lit (.int .i64 ((ruleD name c)).Sal),.sl .ePat ((ruleD name c)).Pats,.sl .eCond ((ruleD name c)).Conds,.sl .eAct ((ruleD name c)).Acts]],true,[.box [.sl .byte ((ruC9 c)).b,.lit (.int .i64 ((ruC9 c)).i),.lit (.int .i64 ((ruC9 c)).h)]]⟩
 law:=by intro l x h;(try simp only at h);split at h<;>cases h;rfl
def Zi39_3(c:DCur)(name:ByteArray):Int×(ByteArray×Int×List DPat×List DCond×List DAct×Unit)×(ByteArray×Int×List DPat×List DCond×List DAct×Unit)×(List Int×Int×Int×Unit)×Unit→Prop:=fun(i,q,r,cu,_)=>r=(name,intV c iLsal,r.2.2.1,[],[],())∧0≤i∧i≤3∧r.2.2.1.length+i≤3∧cOk ⟨cu.1,cu.2.1,cu.2.2.1⟩∧iterL (patD false) patDC i.toNat r.2.2.1 ⟨cu.1,cu.2.1,cu.2.2.1⟩=ruP1 c∧iterC patDC i.toNat ⟨cu.1,cu.2.1,cu.2.2.1⟩=ruC3 c
def Zm39_3(c:DCur)(name:ByteArray):Int×(ByteArray×Int×List DPat×List DCond×List DAct×Unit)×(ByteArray×Int×List DPat×List DCond×List DAct×Unit)×(List Int×Int×Int×Unit)×Unit→Nat:=fun(i,q,r,cu,_)=>i.toNat
def Zi39_15(c:DCur)(name:ByteArray):Int×List ByteArray×(ByteArray×Int×List DPat×List DCond×List DAct×Unit)×(ByteArray×Int×List DPat×List DCond×List DAct×Unit)×(List Int×Int×Int×Unit)×Unit→Prop:=fun(i,vs,q,r,cu,_)=>vs=ruVars c∧r=(name,intV c iLsal,ruPats c,ruConds c,r.2.2.2.2.1,())∧0≤i∧i≤3∧r.2.2.2.2.1.length+i≤3∧cOk ⟨cu.1,cu.2.1,cu.2.2.1⟩∧iterL (ruAct c) (ruActC c) i.toNat r.2.2.2.2.1 ⟨cu.1,cu.2.1,cu.2.2.1⟩=ruActs c∧iterC (ruActC c) i.toNat ⟨cu.1,cu.2.1,cu.2.2.1⟩=ruC9 c
def Zm39_15(c:DCur)(name:ByteArray):Int×List ByteArray×(ByteArray×Int×List DPat×List DCond×List DAct×Unit)×(ByteArray×Int×List DPat×List DCond×List DAct×Unit)×(List Int×Int×Int×Unit)×Unit→Nat:=fun(i,vs,q,r,cu,_)=>i.toNat
def Zi39_19(c:DCur)(name:ByteArray):Int×Int×List ByteArray×(Int×ByteArray×List DExpr×Int×ByteArray×Unit)×(ByteArray×Int×List DPat×List DCond×List DAct×Unit)×(ByteArray×Int×List DPat×List DCond×List DAct×Unit)×(List Int×Int×Int×Unit)×Unit→Int×Int×List ByteArray×(Int×ByteArray×List DExpr×Int×ByteArray×Unit)×(ByteArray×Int×List DPat×List DCond×List DAct×Unit)×(ByteArray×Int×List DPat×List DCond×List DAct×Unit)×(List Int×Int×Int×Unit)×Unit→Prop:=fun(i0,k0,vs0,a0,q0,r0,cu0,_) (i,k,vs,a,q,r,cu,_)=>i=i0∧vs=vs0∧a=(a0.1,a0.2.1,a.2.2.1,a0.2.2.2.1,a0.2.2.2.2.1,())∧r=r0∧cu=cu0∧0≤k∧k≤a0.2.2.1.length∧a.2.2.1=fitAt (ruVars c) a0.2.2.1 k.toNat
def Zm39_19(c:DCur)(name:ByteArray):Int×Int×List ByteArray×(Int×ByteArray×List DExpr×Int×ByteArray×Unit)×(ByteArray×Int×List DPat×List DCond×List DAct×Unit)×(ByteArray×Int×List DPat×List DCond×List DAct×Unit)×(List Int×Int×Int×Unit)×Unit→Nat:=fun(i,k,vs,a,q,r,cu,_)=>a.2.2.1.length-k.toNat
def Za39:Zk39.α→Nat→Option (Ann UU):=fun(c,name)=>annL [(3,annOf [.slot 6 (6,1024) (.lit (.int .i64)),.box 4 (4,1024) [.lit .str,.lit (.int .i64),.own .ePat true,.own .eCond true,.own .eAct true],.box 5 (5,1024) [.lit .str,.lit (.int .i64),.own .ePat true,.own .eCond true,.own .eAct true],.box 0 (2000000,0) [.shr .byte,.lit (.int .i64),.lit (.int .i64)]] (fun _=>Zi39_3 c name) (Zm39_3 c name)),(15,annOf [.slot 9 (9,1024) (.lit (.int .i64)),.slot 7 (7,1024) (.own .str true),.box 4 (4,1024) [.lit .str,.lit (.int .i64),.own .ePat true,.own .eCond true,.own .eAct true],.box 5 (5,1024) [.lit .str,.lit (.int .i64),.own .ePat true,.own .eCond true,.own .eAct true],.box 0 (2000000,0) [.shr .byte,.lit (.int .i64),.lit (.int .i64)]] (fun _=>Zi39_15 c name) (Zm39_15 c name)),(19,annOf [.slot 9 (9,1024) (.lit (.int .i64)),.slot 11 (11,1024) (.lit (.int .i64)),.slot 7 (7,1024) (.own .str true),.box 10 (10,1024) [.lit (.int .i64),.lit .str,.own .eExpr true,.lit (.int .i64),.lit .str],.box 4 (4,1024) [.lit .str,.lit (.int .i64),.own .ePat true,.own .eCond true,.own .eAct true],.box 5 (5,1024) [.lit .str,.lit (.int .i64),.own .ePat true,.own .eCond true,.own .eAct true],.box 0 (2000000,0) [.shr .byte,.lit (.int .i64),.lit (.int .i64)]] (Zi39_19 c name) (Zm39_19 c name))]
def Zu39:=us [Zh28,Zh20,Zh61,Zh19,Zh62,Zh63,Zh64,Zh25,Zh65]
def I_spec_l9Draw_cut(c:DCur)(name:ByteArray):List ByteArray×(ByteArray×Int×List DPat×List DCond×List DAct×Unit)×(ByteArray×Int×List DPat×List DCond×List DAct×Unit)×(List Int×Int×Int×Unit)×Unit→Prop:=fun(vs,q,r,cu,_)=>vs=ruVars c∧r=(name,intV c iLsal,ruPats c,ruConds c,[],())∧cOk ⟨cu.1,cu.2.1,cu.2.2.1⟩∧(⟨cu.1,cu.2.1,cu.2.2.1⟩:DCur)=ruC7 c
def cut_spec_l9Draw:Zk39.α→Ann UU:=fun(c,name)=>annOf [.slot 7 (7,1024) (.own .str true),.box 4 (4,1024) [.lit .str,.lit (.int .i64),.own .ePat true,.own .eCond true,.own .eAct true],.box 5 (5,1024) [.lit .str,.lit (.int .i64),.own .ePat true,.own .eCond true,.own .eAct true],.box 0 (2000000,0) [.shr .byte,.lit (.int .i64),.lit (.int .i64)]] (fun _=>I_spec_l9Draw_cut c name) (fun _=>0)
theorem Zw39(c:DCur)(name:ByteArray)(y:List ByteArray×(ByteArray×Int×List DPat×List DCond×List DAct×Unit)×(ByteArray×Int×List DPat×List DCond×List DAct×Unit)×(List Int×Int×Int×Unit)×Unit):goalCB EE Zu39 f39 Zk39 Za39 (c,name) 14 (cut_spec_l9Draw (c,name)) y=(let x1:DCur:={b:=y.2.2.2.1.1,i:=y.2.2.2.1.2.1,h:=y.2.2.2.1.2.2.1:DCur};
let x0:DCur:=belowC x1 (3:Int);
(0:Int)≤y.2.2.2.1.2.1∧
 List.length y.2.2.2.1.1≤(4294967296:Nat)∧
  Zi39_15 c name (IntKind.wrap IntKind.i64 ((1:Int)+belowV x1 (3:Int)),y.1,(y.2.1.1,y.2.1.2.1,y.2.1.2.2.1,y.2.1.2.2.2.1,y.2.1.2.2.2.2.1,PUnit.unit),(y.2.2.1.1,y.2.2.1.2.1,y.2.2.1.2.2.1,y.2.2.1.2.2.2.1,y.2.2.1.2.2.2.2.1,PUnit.unit),(x0.b,x0.i,x0.h,PUnit.unit),PUnit.unit)∧
   ∀(y:Int×List ByteArray×(ByteArray×Int×List DPat×List DCond×List DAct×PUnit)×(ByteArray×Int×List DPat×List DCond×List DAct×PUnit)×(List Int×Int×Int×PUnit)×PUnit),
    let x4:DCur:={b:=y.2.2.2.2.1.1,i:=y.2.2.2.2.1.2.1,h:=y.2.2.2.2.1.2.2.1:DCur};
    let x5:Int:=(↑(posN y.2.2.2.1.2.2.1):Int);
    let x2:DAct:=actD x5 x4;
    let x3:DCur:=actDC x5 x4;
    Zi39_15 c name y→
     bif decide (y.1>(0:Int)) then
      cOk x4∧
       Zi39_19 c name (y.1,(0:Int),y.2.1,(x2.Kind,x2.Name,x2.Args,x2.N,x2.Undo,PUnit.unit),(y.2.2.1.1,y.2.2.1.2.1,y.2.2.1.2.2.1,y.2.2.1.2.2.2.1,y.2.2.1.2.2.2.2.1,PUnit.unit),(y.2.2.2.1.1,y.2.2.2.1.2.1,y.2.2.2.1.2.2.1,y.2.2.2.1.2.2.2.1,y.2.2.2.1.2.2.2.2.1,PUnit.unit),(x3.b,x3.i,x3.h,PUnit.unit),PUnit.unit) (y.1,(0:Int),y.2.1,(x2.Kind,x2.Name,x2.Args,x2.N,x2.Undo,PUnit.unit),(y.2.2.1.1,y.2.2.1.2.1,y.2.2.1.2.2.1,y.2.2.1.2.2.2.1,y.2.2.1.2.2.2.2.1,PUnit.unit),(y.2.2.2.1.1,y.2.2.2.1.2.1,y.2.2.2.1.2.2.1,y.2.2.2.1.2.2.2.1,y.2.2.2.1.2.2.2.2.1,PUnit.unit),(x3.b,x3.i,x3.h,PUnit.unit),PUnit.unit)∧
        ∀(y_1:Int×Int×List ByteArray×(Int×ByteArray×List DExpr×Int×ByteArray×PUnit)×(ByteArray×Int×List DPat×List DCond×List DAct×PUnit)×(ByteArray×Int×List DPat×List DCond×List DAct×PUnit)×(List Int×Int×Int×PUnit)×PUnit),
         let x7:List DAct:=[{Kind:=y_1.2.2.2.1.1,Name:=y_1.2.2.2.1.2.1,Args:=y_1.2.2.2.1.2.2.1,N:=y_1.2.2.2.1.2.2.2.1,Undo:=y_1.2.2.2.1.2.2.2.2.1:DAct}];
         let x8:Nat:=Int.toNat y_1.2.1;
         let x10:Nat:=List.length y_1.2.2.2.1.2.2.1;
         let x11:Int:=IntKind.wrap IntKind.i64 (y_1.2.1+(1:Int));
         let x6:List DExpr:=List.modify y_1.2.2.2.1.2.2.1 x8 fun(x:DExpr)=>{Op:=x.Op,L:=fitT y_1.2.2.1 (List.getD y_1.2.2.2.1.2.2.1 x8 zExpr).L,R:=x.R:DExpr};
         let x9:Int:=(↑x10:Int);
         Zi39_19 c name (y.1,(0:Int),y.2.1,(x2.Kind,x2.Name,x2.Args,x2.N,x2.Undo,PUnit.unit),(y.2.2.1.1,y.2.2.1.2.1,y.2.2.1.2.2.1,y.2.2.1.2.2.2.1,y.2.2.1.2.2.2.2.1,PUnit.unit),(y.2.2.2.1.1,y.2.2.2.1.2.1,y.2.2.2.1.2.2.1,y.2.2.2.1.2.2.2.1,y.2.2.2.1.2.2.2.2.1,PUnit.unit),(x3.b,x3.i,x3.h,PUnit.unit),PUnit.unit) y_1→bif decide (y_1.2.1<x9) then(0:Int)≤y_1.2.1∧x8<x10∧x8<x10∧(0:Int)≤y_1.2.1∧x8<x10∧x8<x10∧(0:Int)≤y_1.2.1∧x8<List.length x6∧x8<List.length x6∧bif !ByteArray.toList (List.getD x6 x8 zExpr).Op==ByteArray.toList {data:= #[]:ByteArray} then(0:Int)≤y_1.2.1∧x8<List.length x6∧x8<List.length x6∧(0:Int)≤y_1.2.1∧x8<List.length x6∧x8<List.length x6∧Zi39_19 c name (y.1,(0:Int),y.2.1,(x2.Kind,x2.Name,x2.Args,x2.N,x2.Undo,PUnit.unit),(y.2.2.1.1,y.2.2.1.2.1,y.2.2.1.2.2.1,y.2.2.1.2.2.2.1,y.2.2.1.2.2.2.2.1,PUnit.unit),(y.2.2.2.1.1,y.2.2.2.1.2.1,y.2.2.2.1.2.2.1,y.2.2.2.1.2.2.2.1,y.2.2.2.1.2.2.2.2.1,PUnit.unit),(x3.b,x3.i,x3.h,PUnit.unit),PUnit.unit) (y_1.1,x11,y_1.2.2.1,(y_1.2.2.2.1.1,y_1.2.2.2.1.2.1,List.modify x6 x8 fun(x:DExpr)=>{Op:=x.Op,L:=x.L,R:=fitT y_1.2.2.1 (List.getD x6 x8 zExpr).R:DExpr},y_1.2.2.2.1.2.2.2.1,y_1.2.2.2.1.2.2.2.2.1,PUnit.unit),(y_1.2.2.2.2.1.1,y_1.2.2.2.2.1.2.1,y_1.2.2.2.2.1.2.2.1,y_1.2.2.2.2.1.2.2.2.1,y_1.2.2.2.2.1.2.2.2.2.1,PUnit.unit),(y_1.2.2.2.2.2.1.1,y_1.2.2.2.2.2.1.2.1,y_1.2.2.2.2.2.1.2.2.1,y_1.2.2.2.2.2.1.2.2.2.1,y_1.2.2.2.2.2.1.2.2.2.2.1,PUnit.unit),(y_1.2.2.2.2.2.2.1.1,y_1.2.2.2.2.2.2.1.2.1,y_1.2.2.2.2.2.2.1.2.2.1,PUnit.unit),PUnit.unit)∧Zm39_19 c name (y_1.1,x11,y_1.2.2.1,(y_1.2.2.2.1.1,y_1.2.2.2.1.2.1,List.modify x6 x8 fun(x:DExpr)=>{Op:=x.Op,L:=x.L,R:=fitT y_1.2.2.1 (List.getD x6 x8 zExpr).R:DExpr},y_1.2.2.2.1.2.2.2.1,y_1.2.2.2.1.2.2.2.2.1,PUnit.unit),(y_1.2.2.2.2.1.1,y_1.2.2.2.2.1.2.1,y_1.2.2.2.2.1.2.2.1,y_1.2.2.2.2.1.2.2.2.1,y_1.2.2.2.2.1.2.2.2.2.1,PUnit.unit),(y_1.2.2.2.2.2.1.1,y_1.2.2.2.2.2.1.2.1,y_1.2.2.2.2.2.1.2.2.1,y_1.2.2.2.2.2.1.2.2.2.1,y_1.2.2.2.2.2.1.2.2.2.2.1,PUnit.unit),(y_1.2.2.2.2.2.2.1.1,y_1.2.2.2.2.2.2.1.2.1,y_1.2.2.2.2.2.2.1.2.2.1,PUnit.unit),PUnit.unit)<Zm39_19 c name y_1 else Zi39_19 c name (y.1,(0:Int),y.2.1,(x2.Kind,x2.Name,x2.Args,x2.N,x2.Undo,PUnit.unit),(y.2.2.1.1,y.2.2.1.2.1,y.2.2.1.2.2.1,y.2.2.1.2.2.2.1,y.2.2.1.2.2.2.2.1,PUnit.unit),(y.2.2.2.1.1,y.2.2.2.1.2.1,y.2.2.2.1.2.2.1,y.2.2.2.1.2.2.2.1,y.2.2.2.1.2.2.2.2.1,PUnit.unit),(x3.b,x3.i,x3.h,PUnit.unit),PUnit.unit) (y_1.1,x11,y_1.2.2.1,(y_1.2.2.2.1.1,y_1.2.2.2.1.2.1,x6,y_1.2.2.2.1.2.2.2.1,y_1.2.2.2.1.2.2.2.2.1,PUnit.unit),(y_1.2.2.2.2.1.1,y_1.2.2.2.2.1.2.1,y_1.2.2.2.2.1.2.2.1,y_1.2.2.2.2.1.2.2.2.1,y_1.2.2.2.2.1.2.2.2.2.1,PUnit.unit),(y_1.2.2.2.2.2.1.1,y_1.2.2.2.2.2.1.2.1,y_1.2.2.2.2.2.1.2.2.1,y_1.2.2.2.2.2.1.2.2.2.1,y_1.2.2.2.2.2.1.2.2.2.2.1,PUnit.unit),(y_1.2.2.2.2.2.2.1.1,y_1.2.2.2.2.2.2.1.2.1,y_1.2.2.2.2.2.2.1.2.2.1,PUnit.unit),PUnit.unit)∧Zm39_19 c name (y_1.1,x11,y_1.2.2.1,(y_1.2.2.2.1.1,y_1.2.2.2.1.2.1,x6,y_1.2.2.2.1.2.2.2.1,y_1.2.2.2.1.2.2.2.2.1,PUnit.unit),(y_1.2.2.2.2.1.1,y_1.2.2.2.2.1.2.1,y_1.2.2.2.2.1.2.2.1,y_1.2.2.2.2.1.2.2.2.1,y_1.2.2.2.2.1.2.2.2.2.1,PUnit.unit),(y_1.2.2.2.2.2.1.1,y_1.2.2.2.2.2.1.2.1,y_1.2.2.2.2.2.1.2.2.1,y_1.2.2.2.2.2.1.2.2.2.1,y_1.2.2.2.2.2.1.2.2.2.2.1,PUnit.unit),(y_1.2.2.2.2.2.2.1.1,y_1.2.2.2.2.2.2.1.2.1,y_1.2.2.2.2.2.2.1.2.2.1,PUnit.unit),PUnit.unit)<Zm39_19 c name y_1 else List.length y_1.2.2.2.2.2.1.2.2.2.2.1+List.length x7≤(4294967296:Nat)∧Zi39_15 c name (IntKind.wrap IntKind.i64 (y_1.1-(1:Int)),y_1.2.2.1,(y_1.2.2.2.2.1.1,y_1.2.2.2.2.1.2.1,y_1.2.2.2.2.1.2.2.1,y_1.2.2.2.2.1.2.2.2.1,y_1.2.2.2.2.1.2.2.2.2.1,PUnit.unit),(y_1.2.2.2.2.2.1.1,y_1.2.2.2.2.2.1.2.1,y_1.2.2.2.2.2.1.2.2.1,y_1.2.2.2.2.2.1.2.2.2.1,y_1.2.2.2.2.2.1.2.2.2.2.1++x7,PUnit.unit),(y_1.2.2.2.2.2.2.1.1,y_1.2.2.2.2.2.2.1.2.1,y_1.2.2.2.2.2.2.1.2.2.1,PUnit.unit),PUnit.unit)∧Zm39_15 c name (IntKind.wrap IntKind.i64 (y_1.1-(1:Int)),y_1.2.2.1,(y_1.2.2.2.2.1.1,y_1.2.2.2.2.1.2.1,y_1.2.2.2.2.1.2.2.1,y_1.2.2.2.2.1.2.2.2.1,y_1.2.2.2.2.1.2.2.2.2.1,PUnit.unit),(y_1.2.2.2.2.2.1.1,y_1.2.2.2.2.2.1.2.1,y_1.2.2.2.2.2.1.2.2.1,y_1.2.2.2.2.2.1.2.2.2.1,y_1.2.2.2.2.2.1.2.2.2.2.1++x7,PUnit.unit),(y_1.2.2.2.2.2.2.1.1,y_1.2.2.2.2.2.2.1.2.1,y_1.2.2.2.2.2.2.1.2.2.1,PUnit.unit),PUnit.unit)<Zm39_15 c name y
     else(0:Nat)=(0:Nat)∧asD [DV.agg [Cell.lit (Value.string y.2.2.2.1.1),Cell.lit (Value.int IntKind.i64 y.2.2.2.1.2.1),Cell.sl Cd.ePat y.2.2.2.1.2.2.1,Cell.sl Cd.eCond y.2.2.2.1.2.2.2.1,Cell.sl Cd.eAct y.2.2.2.1.2.2.2.2.1]]=asD [DV.agg [Cell.lit (Value.string (ruleD name c).Name),Cell.lit (Value.int IntKind.i64 (ruleD name c).Sal),Cell.sl Cd.ePat (ruleD name c).Pats,Cell.sl Cd.eCond (ruleD name c).Conds,Cell.sl Cd.eAct (ruleD name c).Acts]]∧asD [DV.box [Cell.sl Cd.byte y.2.2.2.2.1.1,Cell.lit (Value.int IntKind.i64 y.2.2.2.2.1.2.1),Cell.lit (Value.int IntKind.i64 y.2.2.2.2.1.2.2.1)]]=asD [DV.box [Cell.sl Cd.byte (ruC9 c).b,Cell.lit (Value.int IntKind.i64 (ruC9 c).i),Cell.lit (Value.int IntKind.i64 (ruC9 c).h)]]):=by kernel_rfl
theorem vb_spec_l9Draw(c:DCur)(name:ByteArray)(y:List ByteArray×(ByteArray×Int×List DPat×List DCond×List DAct×Unit)×(ByteArray×Int×List DPat×List DCond×List DAct×Unit)×(List Int×Int×Int×Unit)×Unit)(hp:∀p∈Zk39.pre (c,name),p)(hb:∀d∈Zk39.ds (c,name),BdDV d)(hy:I_spec_l9Draw_cut c name y):goalCB EE Zu39 f39 Zk39 Za39 (c,name) 14 (cut_spec_l9Draw (c,name)) y:=by
 have hb_c:BdDV (U:=UU) (.box [.sl .byte c.b,.lit (.int .i64 c.i),.lit (.int .i64 c.h)]):=hb _ (zab)
 have hl_c_b:c.b.length≤9223372036854775807:=Bd.len (U:=UU) (τ:=.byte) (xs:=c.b) (hb_c _ (by simp))
 have hb_name:BdDV (U:=UU) (.one (.lit (.string name))):=hb _ (zaa _ (zab))
 have hl_name:name.size≤9223372036854775807:=Bd.str hb_name
 have hp0:cOk c:=hp _ (zab)
 clear hp hb
 rw[Zw39 c name y]
 dsimp only
 have hM:=ruM_le c
 have w2:IntKind.wrap .i64 (1+belowV (ruC7 c) 3)=ruM c:=wrap_i64 (n:=ruM c) (by omega) (by omega)
 obtain⟨vs,⟨q1,q2,q3,q4,q5,⟨⟩⟩,⟨r1,r2,r3,r4,r5,⟨⟩⟩,⟨cb,ci,ch,⟨⟩⟩,⟨⟩⟩:=y
 obtain⟨hvs,hr,g4,g7⟩:=hy
 simp only[zax,and_true,true_and] at hvs hr g4 g7
 obtain⟨m1,m2,m3,m4,m5⟩:=hr
 have m1:=m1.symm
 subst m1 hvs m2 m3 m4 m5
 have fin:∀d e:DCur,d=ruC7 c→e=ruC8 c→Zi39_15 c name (IntKind.wrap .i64 (1+belowV d 3),ruVars c,(q1,q2,q3,q4,q5,()),(name,intV c iLsal,ruPats c,ruConds c,[],()),(e.b,e.i,e.h,()),()):=by
  intro d e hd he
  have w3:IntKind.wrap .i64 (1+belowV d 3)=ruM c:=by rw[hd];exact w2
  rw[w3]
  refine⟨rfl,rfl,by omega,by omega,by simp only[zbo];omega,?_,?_,?_⟩
  ·show cOk e
   rw[he];exact cOk_below (cOk_ru7 hp0) 3
  ·show iterL (ruAct c) (ruActC c) (ruM c).toNat [] e=ruActs c
   rw[he,ruActs]
  ·show iterC (ruActC c) (ruM c).toNat e=ruC9 c
   rw[he,ruC9]
 refine⟨g4.1,g4.2,fin ⟨cb,ci,ch⟩ (belowC ⟨cb,ci,ch⟩ 3) g7 (by rw[g7,ruC8]),?_⟩
 clear g7 fin
 clear hM w2 g4
 rintro⟨i,vs,⟨q1,q2,q3,q4,q5,⟨⟩⟩,⟨r1,r2,r3,r4,r5,⟨⟩⟩,⟨cb,ci,ch,⟨⟩⟩,⟨⟩⟩ ⟨hvs,hr,g1,g2,g3,g4,g5,g6⟩
 have m1:name=r1:=(congrArg Prod.fst hr).symm
 have m2:r2=intV c iLsal:=congrArg (fun t=>t.2.1) hr
 have m3:r3=ruPats c:=congrArg (fun t=>t.2.2.1) hr
 have m4:r4=ruConds c:=congrArg (fun t=>t.2.2.2.1) hr
 have hvs:vs=ruVars c:=hvs
 clear hr
 subst m1 hvs m2 m3 m4
 have g1:0≤i:=g1
 have g2:i≤3:=g2
 have g3:(r5.length:Int)+i≤3:=g3
 have g4:cOk ⟨cb,ci,ch⟩:=g4
 have g5:iterL (ruAct c) (ruActC c) i.toNat r5 ⟨cb,ci,ch⟩=ruActs c:=g5
 have g6:iterC (ruActC c) i.toNat ⟨cb,ci,ch⟩=ruC9 c:=g6
 refine if_dec (fun hc=> ?_) (fun hc=>⟨by trivial,?_⟩)
 ·have hc:i>0:=hc
  generalize hp:((posN (ruPats c):Nat):Int)=pn at*
  have hAl:=actD_args pn ⟨cb,ci,ch⟩
  have hact:ruAct c ⟨cb,ci,ch⟩=fitA (ruVars c) (actD pn ⟨cb,ci,ch⟩):=by rw[←hp];rfl
  have hactC:ruActC c ⟨cb,ci,ch⟩=actDC pn ⟨cb,ci,ch⟩:=by rw[←hp];rfl
  have kC:=cOk_actD pn g4
  clear hp
  generalize actD pn ⟨cb,ci,ch⟩=a at*
  generalize actDC pn ⟨cb,ci,ch⟩=d at*
  refine⟨g4,⟨rfl,rfl,rfl,rfl,rfl,by omega,by simp only;omega,rfl⟩,?_⟩
  rintro⟨i',k,vs',⟨a1,a2,a3,a4,a5,⟨⟩⟩,⟨q1',q2',q3',q4',q5',⟨⟩⟩,⟨r1',r2',r3',r4',r5',⟨⟩⟩,⟨cb',ci',ch',⟨⟩⟩,⟨⟩⟩ ⟨hi,hv,ha,hr,hcu,k1,k2,hl⟩
  have hi:i=i':=Eq.symm hi
  have hv:vs'=ruVars c:=hv
  have n1:a1=a.Kind:=congrArg Prod.fst ha
  have n2:a2=a.Name:=congrArg (fun t=>t.2.1) ha
  have n3:a4=a.N:=congrArg (fun t=>t.2.2.2.1) ha
  have n4:a5=a.Undo:=congrArg (fun t=>t.2.2.2.2.1) ha
  have m1:r1'=name:=congrArg Prod.fst hr
  have m2:r2'=intV c iLsal:=congrArg (fun t=>t.2.1) hr
  have m3:r3'=ruPats c:=congrArg (fun t=>t.2.2.1) hr
  have m4:r4'=ruConds c:=congrArg (fun t=>t.2.2.2.1) hr
  have m5:r5=r5':=(congrArg (fun t=>t.2.2.2.2.1) hr).symm
  have u1:cb'=d.b:=congrArg Prod.fst hcu
  have u2:ci'=d.i:=congrArg (fun t=>t.2.1) hcu
  have u3:ch'=d.h:=congrArg (fun t=>t.2.2.1) hcu
  have k1:0≤k:=k1
  have k2:k≤a.Args.length:=k2
  have hl:a3=fitAt (ruVars c) a.Args k.toNat:=hl
  clear ha hr hcu
  have m1:=m1.symm
  subst n1 n2 n3 n4 m2 m3 m4 u1 u2 u3 hl hv hi m5
  subst m1
  have hlen:(fitAt (ruVars c) a.Args k.toNat).length=a.Args.length:=fitAt_len _ _ (by omega)
  refine if_dec (fun hk=> ?_) (fun hk=> ?_)
  ·have hk:k<((fitAt (ruVars c) a.Args k.toNat).length:Int):=hk
   rw[hlen] at hk
   have hkn:k.toNat<a.Args.length:=by omega
   have p1:k.toNat<(fitAt (ruVars c) a.Args k.toNat).length:=by omega
   have p2:∀g,k.toNat<((fitAt (ruVars c) a.Args k.toNat).modify k.toNat g).length:=fun g=>by rw[zbf];exact p1
   have ek:(k+1).toNat=k.toNat+1:=by omega
   have nx:∀l:List DExpr,l=fitAt (ruVars c) a.Args (k.toNat+1)→Zi39_19 c name (i,0,ruVars c,(a.Kind,a.Name,a.Args,a.N,a.Undo,()),(q1,q2,q3,q4,q5,()),(name,intV c iLsal,ruPats c,ruConds c,r5,()),(d.b,d.i,d.h,()),()) (i,IntKind.wrap .i64 (k+1),ruVars c,(a.Kind,a.Name,l,a.N,a.Undo,()),(q1',q2',q3',q4',q5',()),(name,intV c iLsal,ruPats c,ruConds c,r5,()),(d.b,d.i,d.h,()),())∧Zm39_19 c name (i,IntKind.wrap .i64 (k+1),ruVars c,(a.Kind,a.Name,l,a.N,a.Undo,()),(q1',q2',q3',q4',q5',()),(name,intV c iLsal,ruPats c,ruConds c,r5,()),(d.b,d.i,d.h,()),())<Zm39_19 c name (i,k,ruVars c,(a.Kind,a.Name,fitAt (ruVars c) a.Args k.toNat,a.N,a.Undo,()),(q1',q2',q3',q4',q5',()),(name,intV c iLsal,ruPats c,ruConds c,r5,()),(d.b,d.i,d.h,()),()):=by
    rintro l rfl
    have hl2:(fitAt (ruVars c) a.Args (k.toNat+1)).length=a.Args.length:=fitAt_len _ _ (by omega)
    rw[wrap_i64 (n:=k+1) (by omega) (by omega)]
    exact⟨⟨rfl,rfl,rfl,rfl,rfl,by omega,by simp only;omega,by rw[ek]⟩,by simp only[Zm39_19];omega⟩
   refine⟨k1,p1,p1,k1,p1,p1,k1,p2 _,p2 _,if_strn (fun o=>⟨k1,p2 _,p2 _,k1,p2 _,p2 _,nx _ ?_⟩) (fun o=>nx _ ?_)⟩
   ·have o:¬(List.getD a.Args k.toNat zExpr).Op=noBytes:=fun e=>o ((congrArg DExpr.Op (fitAt_getm hkn _)).trans e)
    refine(fitAt_mod2 hkn _ _).trans (Eq.trans ?_ (fitAt_next hkn))
    congr 2
    show(⟨_,_,fitT (ruVars c) (List.getD ((fitAt (ruVars c) a.Args k.toNat).modify k.toNat _) k.toNat zExpr).R⟩:DExpr)=_
    rw[fitAt_getm hkn,fitAt_get hkn]
    simp only[fitE,if_neg o]
   ·have o:(List.getD a.Args k.toNat zExpr).Op=noBytes:=(congrArg DExpr.Op (fitAt_getm hkn _)).symm.trans o
    refine(fitAt_mod hkn _).trans (Eq.trans ?_ (fitAt_next hkn))
    congr 2
    show(⟨_,fitT (ruVars c) (List.getD (fitAt (ruVars c) a.Args k.toNat) k.toNat zExpr).L,_⟩:DExpr)=_
    rw[fitAt_get hkn]
    simp only[fitE,if_pos o]
  ·have hk:¬k<((fitAt (ruVars c) a.Args k.toNat).length:Int):=hk
   rw[hlen] at hk
   have hf:fitAt (ruVars c) a.Args k.toNat=a.Args.map (fitE (ruVars c)):=by
    rw[fitAt,zcy (by omega),List.drop_eq_nil_of_le (by omega),zch]
   have e:i.toNat=(i-1).toNat+1:=by omega
   rw[e] at g5 g6
   simp only[iterL,iterC,hact,hactC] at g5 g6
   have fin:Zi39_15 c name (IntKind.wrap .i64 (i-1),ruVars c,(q1',q2',q3',q4',q5',()),(name,intV c iLsal,ruPats c,ruConds c,r5++[⟨a.Kind,a.Name,fitAt (ruVars c) a.Args k.toNat,a.N,a.Undo⟩],()),(d.b,d.i,d.h,()),())∧Zm39_15 c name (IntKind.wrap .i64 (i-1),ruVars c,(q1',q2',q3',q4',q5',()),(name,intV c iLsal,ruPats c,ruConds c,r5++[⟨a.Kind,a.Name,fitAt (ruVars c) a.Args k.toNat,a.N,a.Undo⟩],()),(d.b,d.i,d.h,()),())<Zm39_15 c name (i,ruVars c,(q1,q2,q3,q4,q5,()),(name,intV c iLsal,ruPats c,ruConds c,r5,()),(cb,ci,ch,()),()):=by
    rw[hf,wrap_i64 (n:=i-1) (by omega) (by omega)]
    exact⟨⟨rfl,rfl,by omega,by omega,by simp only[zce,zbq,zbo];omega,kC,g5,g6⟩,by simp only[Zm39_15];omega⟩
   have hr5:r5.length+1≤4294967296:=by omega
   exact⟨hr5,fin⟩
 ·have hc:¬i>0:=hc
  have e:i.toNat=0:=by omega
  rw[e] at g5 g6
  have g5:r5=ruActs c:=g5
  have g6:(⟨cb,ci,ch⟩:DCur)=ruC9 c:=g6
  exact LdR (a:=⟨name,intV c iLsal,ruPats c,ruConds c,r5⟩) (a':=⟨name,intV c iLsal,ruPats c,ruConds c,ruActs c⟩) (d:=⟨cb,ci,ch⟩) (d':=ruC9 c) (by rw[g5]) g6
theorem vd_spec_l9Draw(c:DCur)(name:ByteArray)(hp:∀p∈Zk39.pre (c,name),p)(hb:∀d∈Zk39.ds (c,name),BdDV d):goalCA EE Zu39 f39 Zk39 Za39 (c,name) 14 (cut_spec_l9Draw (c,name)):=by
 have hb_c:BdDV (U:=UU) (.box [.sl .byte c.b,.lit (.int .i64 c.i),.lit (.int .i64 c.h)]):=hb _ (zab)
 have hl_c_b:c.b.length≤9223372036854775807:=Bd.len (U:=UU) (τ:=.byte) (xs:=c.b) (hb_c _ (by simp))
 have hb_name:BdDV (U:=UU) (.one (.lit (.string name))):=hb _ (zaa _ (zab))
 have hl_name:name.size≤9223372036854775807:=Bd.str hb_name
 have hp0:cOk c:=hp _ (zab)
 clear hp hb
 apply @ve _ (let x3:List Int:=[(0:Int),(0:Int),(5:Int),(-5:Int),(100:Int)];let x2:Nat:=x3.length;let x1:Int:=(↑x2:Int);let x0:DCur:=belowC c x1;(0:Int)≤c.i∧c.b.length≤(4294967296:Nat)∧(1:Nat)≤x2∧(0:Int)≤x0.i∧x0.b.length≤(4294967296:Nat)∧Zi39_3 c name (IntKind.wrap IntKind.i64 ((1:Int)+belowV x0 (3:Int)),({data:= #[]:ByteArray},(0:Int),[],[],[],()),(name,List.getD x3 (Int.toNat (belowV c x1)) (0:Int),[],[],[],()),((belowC x0 (3:Int)).b,(belowC x0 (3:Int)).i,(belowC x0 (3:Int)).h,()),())∧∀(y:Int×(ByteArray×Int×List DPat×List DCond×List DAct×PUnit)×(ByteArray×Int×List DPat×List DCond×List DAct×PUnit)×(List Int×Int×Int×PUnit)×PUnit),let x10:DCur:={b:=y.2.2.2.1.1,i:=y.2.2.2.1.2.1,h:=y.2.2.2.1.2.2.1:DCur};let x11:List ByteArray:=posVarsS y.2.2.1.2.2.1;let x12:Nat:=y.2.2.1.2.2.2.1.length;let x13:Nat:=y.2.2.1.2.2.1.length;let x15:List DPat:=[{Kind:=(patD false x10).Kind,Args:=(patD false x10).Args,Not:=false:DPat}];let x9:DCur:=belowC x10 (3:Int);let x16:List DPat:=[{Kind:=(patD true x9).Kind,Args:=(patD true x9).Args,Not:=true:DPat}];let x6:List DPat:=y.2.2.1.2.2.1++x16;let x7:DCur:=belowC (patDC x9) (3:Int);let x8:DCur:=belowC x9 (3:Int);let x14:List DCond:=[{Op:=(1:Int)+belowV x8 (3:Int),L:=fitT x11 (termD (belowC x8 (3:Int))),R:=fitT x11 (termD (termDC (belowC x8 (3:Int)))):DCond}];let x17:DCur:=termDC (termDC (belowC x7 (3:Int)));let x18:DCur:=termDC (termDC (belowC x8 (3:Int)));let x5:List ByteArray:=posVarsS x6;let x4:List DCond:=[{Op:=(1:Int)+belowV x7 (3:Int),L:=fitT x5 (termD (belowC x7 (3:Int))),R:=fitT x5 (termD (termDC (belowC x7 (3:Int)))):DCond}];Zi39_3 c name y→bif decide (y.1>(0:Int)) then cOk x10∧x13+x15.length≤(4294967296:Nat)∧Zi39_3 c name (IntKind.wrap IntKind.i64 (y.1-(1:Int)),(y.2.1.1,y.2.1.2.1,y.2.1.2.2.1,y.2.1.2.2.2.1,y.2.1.2.2.2.2.1,()),(y.2.2.1.1,y.2.2.1.2.1,y.2.2.1.2.2.1++x15,y.2.2.1.2.2.2.1,y.2.2.1.2.2.2.2.1,()),((patDC x10).b,(patDC x10).i,(patDC x10).h,()),())∧Zm39_3 c name (IntKind.wrap IntKind.i64 (y.1-(1:Int)),(y.2.1.1,y.2.1.2.1,y.2.1.2.2.1,y.2.1.2.2.2.1,y.2.1.2.2.2.2.1,()),(y.2.2.1.1,y.2.2.1.2.1,y.2.2.1.2.2.1++x15,y.2.2.1.2.2.2.1,y.2.2.1.2.2.2.2.1,()),((patDC x10).b,(patDC x10).i,(patDC x10).h,()),())<Zm39_3 c name y else cOk x10∧bif onceV x10 (3:Int) then cOk x9∧x13+x16.length≤(4294967296:Nat)∧patArgs x6≤(4294967296:Nat)∧cOk (patDC x9)∧bif onceV (patDC x9) (3:Int) then cOk x7∧x12+x4.length≤(4294967296:Nat)∧I_spec_l9Draw_cut c name (x5,(y.2.1.1,y.2.1.2.1,y.2.1.2.2.1,y.2.1.2.2.2.1,y.2.1.2.2.2.2.1,()),(y.2.2.1.1,y.2.2.1.2.1,x6,y.2.2.1.2.2.2.1++x4,y.2.2.1.2.2.2.2.1,()),(x17.b,x17.i,x17.h,()),()) else I_spec_l9Draw_cut c name (x5,(y.2.1.1,y.2.1.2.1,y.2.1.2.2.1,y.2.1.2.2.2.1,y.2.1.2.2.2.2.1,()),(y.2.2.1.1,y.2.2.1.2.1,x6,y.2.2.1.2.2.2.1,y.2.2.1.2.2.2.2.1,()),(x7.b,x7.i,x7.h,()),()) else patArgs y.2.2.1.2.2.1≤(4294967296:Nat)∧cOk x9∧bif onceV x9 (3:Int) then cOk x8∧x12+x14.length≤(4294967296:Nat)∧I_spec_l9Draw_cut c name (x11,(y.2.1.1,y.2.1.2.1,y.2.1.2.2.1,y.2.1.2.2.2.1,y.2.1.2.2.2.2.1,()),(y.2.2.1.1,y.2.2.1.2.1,y.2.2.1.2.2.1,y.2.2.1.2.2.2.1++x14,y.2.2.1.2.2.2.2.1,()),(x18.b,x18.i,x18.h,()),()) else I_spec_l9Draw_cut c name (x11,(y.2.1.1,y.2.1.2.1,y.2.1.2.2.1,y.2.1.2.2.2.1,y.2.1.2.2.2.2.1,()),(y.2.2.1.1,y.2.2.1.2.1,y.2.2.1.2.2.1,y.2.2.1.2.2.2.1,y.2.2.1.2.2.2.2.1,()),(x8.b,x8.i,x8.h,()),())) (by kernel_rfl)
 dsimp only
 have hk:=cOk_int hp0 iLsal
 have hN:=ruN_le c
 have hPA:=ruP_args c
 have hpa:patArgs (ruPats c)≤4294967296:=by have:=patArgs_small hPA.1;omega
 have fin:∀(vs:List ByteArray)(q:ByteArray×Int×List DPat×List DCond×List DAct×PUnit)(ps:List DPat)(cs:List DCond)(d:DCur),vs=ruVars c→ps=ruPats c→cs=ruConds c→d=ruC7 c→I_spec_l9Draw_cut c name (vs,q,(name,intV c iLsal,ps,cs,[],()),(d.b,d.i,d.h,()),()):=by
  rintro vs q ps cs d rfl rfl rfl rfl
  exact⟨rfl,rfl,cOk_ru7 hp0,rfl⟩
 have w1:IntKind.wrap .i64 (1+belowV (ruC1 c) 3)=ruN c:=wrap_i64 (n:=ruN c) (by omega) (by omega)
 refine⟨hp0.1,hp0.2,by simp,hk.1,hk.2,?_,?_⟩
 ·show Zi39_3 c name (IntKind.wrap .i64 (1+belowV (ruC1 c) 3),(noBytes,0,[],[],[],()),(name,intV c iLsal,[],[],[],()),((ruC2 c).b,(ruC2 c).i,(ruC2 c).h,()),())
  rw[w1]
  exact⟨rfl,by omega,by omega,by simp only[zbo];omega,cOk_ru2 hp0,rfl,rfl⟩
 rintro⟨i,⟨q1,q2,q3,q4,q5,⟨⟩⟩,⟨r1,r2,r3,r4,r5,⟨⟩⟩,⟨cb,ci,ch,⟨⟩⟩,⟨⟩⟩ ⟨hr,g1,g2,g3,g4,g5,g6⟩
 simp only[zax,and_true,true_and] at hr
 obtain⟨m1,m2,m3,m4⟩:=hr
 subst m1 m2 m3 m4
 simp only at g1 g2 g3 g4 g5 g6⊢
 refine if_dec (fun hc=> ?_) (fun hc=> ?_)
 ·have e:i.toNat=(i-1).toNat+1:=by omega
  rw[e] at g5 g6
  rw[wrap_i64 (by omega) (by omega)]
  exact⟨g4,by simp only[zbq,zbo];omega,⟨rfl,by omega,by omega,by simp only[zce,zbq,zbo];omega,cOk_patD g4,g5,g6⟩,by simp only[Zm39_3];omega⟩
 have e:i.toNat=0:=by omega
 rw[e] at g5 g6
 have g5:r3=ruP1 c:=g5
 have g6:(⟨cb,ci,ch⟩:DCur)=ruC3 c:=g6
 have e1:cb=(ruC3 c).b:=congrArg DCur.b g6
 have e2:ci=(ruC3 c).i:=congrArg DCur.i g6
 have e3:ch=(ruC3 c).h:=congrArg DCur.h g6
 subst g5 e1 e2 e3
 clear g6
 have k4:=cOk_below g4 3
 refine⟨g4,if_cond (fun a=> ?_) (fun a=> ?_)⟩
 ·have aP:ruPats c=ruP1 c++[patD true (ruC4 c)]:=if_pos a
  have a5:ruC5 c=patDC (ruC4 c):=if_pos a
  rw[aP] at hpa
  have k6:=cOk_below (cOk_patD k4) 3
  refine⟨k4,by simp only[zbq,zbo];omega,hpa,cOk_patD k4,if_cond (fun b=> ?_) (fun b=> ?_)⟩
  ·have b':onceV (ruC5 c) 3=true:=by rw[a5];exact b
   have c7:ruC7 c=condDC (ruC6 c):=if_pos b'
   exact⟨k6,by simp,fin _ _ (ruP1 c++[patD true (ruC4 c)]) [fitC (posVarsS (ruP1 c++[patD true (ruC4 c)])) (condD (belowC (patDC (ruC4 c)) 3))] (condDC (belowC (patDC (ruC4 c)) 3)) (by rw[ruVars,aP];rfl) aP.symm (by rw[ruConds,if_pos b',ruVars,aP,ruC6,a5]) (by rw[c7,ruC6,a5])⟩
  ·have b':¬onceV (ruC5 c) 3=true:=by rw[a5];exact fun e=>absurd (b.symm.trans e) (by decide)
   have c7:ruC7 c=ruC6 c:=if_neg b'
   exact fin _ _ (ruP1 c++[patD true (ruC4 c)]) [] (belowC (patDC (ruC4 c)) 3) (by rw[ruVars,aP];rfl) aP.symm (by rw[ruConds,if_neg b']) (by rw[c7,ruC6,a5])
 ·have a':¬onceV (ruC3 c) 3=true:=fun e=>absurd (a.symm.trans e) (by decide)
  have aP:ruPats c=ruP1 c:=if_neg a'
  have a5:ruC5 c=ruC4 c:=if_neg a'
  rw[aP] at hpa
  have k6:=cOk_below k4 3
  refine⟨hpa,k4,if_cond (fun b=> ?_) (fun b=> ?_)⟩
  ·have b':onceV (ruC5 c) 3=true:=by rw[a5];exact b
   have c7:ruC7 c=condDC (ruC6 c):=if_pos b'
   exact⟨k6,by simp,fin _ _ (ruP1 c) [fitC (posVarsS (ruP1 c)) (condD (belowC (ruC4 c) 3))] (condDC (belowC (ruC4 c) 3)) (by rw[ruVars,aP]) aP.symm (by rw[ruConds,if_pos b',ruVars,aP,ruC6,a5]) (by rw[c7,ruC6,a5])⟩
  ·have b':¬onceV (ruC5 c) 3=true:=by rw[a5];exact fun e=>absurd (b.symm.trans e) (by decide)
   have c7:ruC7 c=ruC6 c:=if_neg b'
   exact fin _ _ (ruP1 c) [] (belowC (ruC4 c) 3) (by rw[ruVars,aP]) aP.symm (by rw[ruConds,if_neg b']) (by rw[c7,ruC6,a5])
attribute [local irreducible] goalCA goalCB in
theorem Zo39:Holds EE (39,Zk39):=by
 refine holds_cut EE_ok func39 Zk39 (by kernel_rfl) Zu39 (us_ok _) Za39 14 cut_spec_l9Draw (by kernel_rfl) (fun x hp hb=> ?_)
 obtain⟨c,name⟩:=x
 refine⟨vd_spec_l9Draw c name hp hb,fun(y:List ByteArray×(ByteArray×Int×List DPat×List DCond×List DAct×Unit)×(ByteArray×Int×List DPat×List DCond×List DAct×Unit)×(List Int×Int×Int×Unit)×Unit) hy=> ?_⟩
 have hy:I_spec_l9Draw_cut c name y:=hy
 exact vb_spec_l9Draw c name y hp hb hy
def Zh39:HH:=⟨_,Zo39⟩
def Zk15:Con UU where
 α:=DCur
 md:=[.box false]
 of:=fun|[.box [.sl .byte a0,.lit (.int .i64 a1),.lit (.int .i64 a2)]]=>some ⟨a0,a1,a2⟩|_=>none
 ds:=fun c=>[.box [.sl .byte c.b,.lit (.int .i64 c.i),.lit (.int .i64 c.h)]]
 pre:=fun c=>[cOk c]
 res:=fun c=>⟨[.agg [.lit (.string ((defD c)).Name),.sl .eRule ((defD c)).Rules]],true,[.box [.sl .byte ((defDC c)).b,.lit (.int .i64 ((defDC c)).i),.lit (.int .i64 ((defDC c)).h)]]⟩
 law:=by intro l x h;(try simp only at h);split at h<;>cases h;rfl
def Zi15_4(c:DCur):Int×List ByteArray×(ByteArray×List DRule×Unit)×(ByteArray×List DRule×Unit)×(List Int×Int×Int×Unit)×Unit→Prop:=fun(i,ns,q,d,cu,_)=>ns=sLrule∧d.1=strV c sLdef∧0≤i∧i≤4∧d.2.1.length=i∧cOk ⟨cu.1,cu.2.1,cu.2.2.1⟩∧defL (4-i).toNat i.toNat d.2.1 ⟨cu.1,cu.2.1,cu.2.2.1⟩=(defD c).Rules∧defC (4-i).toNat i.toNat ⟨cu.1,cu.2.1,cu.2.2.1⟩=defDC c
def Zm15_4(c:DCur):Int×List ByteArray×(ByteArray×List DRule×Unit)×(ByteArray×List DRule×Unit)×(List Int×Int×Int×Unit)×Unit→Nat:=fun(i,ns,q,d,cu,_)=>(4-i).toNat
def Za15:Zk15.α→Nat→Option (Ann UU):=fun c=>annL [(4,annOf [.slot 5 (5,1024) (.lit (.int .i64)),.slot 4 (4,1024) (.own .str true),.box 2 (2,1024) [.lit .str,.own .eRule true],.box 3 (3,1024) [.lit .str,.own .eRule true],.box 0 (2000000,0) [.shr .byte,.lit (.int .i64),.lit (.int .i64)]] (fun _=>Zi15_4 c) (Zm15_4 c))]
def Zu15:=us [Zh29,Zh20,Zh39]
theorem Zo15:Holds EE (15,Zk15):=by
 refine holds_of EE_ok func15 Zk15 (by kernel_rfl) Zu15 (us_ok _) Za15 (fun(c:DCur) hp hb=> ?_)
 have hb_c:BdDV (U:=UU) (.box [.sl .byte c.b,.lit (.int .i64 c.i),.lit (.int .i64 c.h)]):=hb _ (zab)
 have hl_c_b:c.b.length≤9223372036854775807:=Bd.len (U:=UU) (τ:=.byte) (xs:=c.b) (hb_c _ (by simp))
 have hp0:cOk c:=hp _ (zab)
 clear hp hb
 apply @ve _ (let x1:List ByteArray:=[{data:= #[(102:UInt8),(108:UInt8),(111:UInt8),(119:UInt8)]:ByteArray},{data:= #[(115:UInt8),(104:UInt8),(105:UInt8),(112:UInt8)]:ByteArray},{data:= #[(120:UInt8)]:ByteArray}];let x0:DCur:=strC c x1;cOk c∧(1:Nat)≤x1.length∧Zi15_4 c ((0:Int),[{data:= #[(114:UInt8),(49:UInt8)]:ByteArray},{data:= #[(114:UInt8),(50:UInt8)]:ByteArray},{data:= #[(114:UInt8),(51:UInt8)]:ByteArray},{data:= #[(114:UInt8),(52:UInt8)]:ByteArray}],({data:= #[]:ByteArray},[],()),(strV c x1,[],()),(x0.b,x0.i,x0.h,()),())∧∀(y:Int×List ByteArray×(ByteArray×List DRule×PUnit)×(ByteArray×List DRule×PUnit)×(List Int×Int×Int×PUnit)×PUnit),let x4:DCur:={b:=y.2.2.2.2.1.1,i:=y.2.2.2.2.1.2.1,h:=y.2.2.2.2.1.2.2.1:DCur};let x2:DCur:=belowC x4 (4:Int);let x3:Int:=IntKind.wrap IntKind.i64 ((1:Int)+belowV x4 (4:Int));let x5:List DRule:=[ruleD (List.getD y.2.1 y.1.toNat noBytes) x2];Zi15_4 c y→(0:Int)≤y.2.2.2.2.1.2.1∧y.2.2.2.2.1.1.length≤(4294967296:Nat)∧bif decide (y.1<x3) then bif decide (y.1<(4:Int)) then(0:Int)≤y.1∧y.1.toNat<y.2.1.length∧y.1.toNat<y.2.1.length∧cOk x2∧y.2.2.2.1.2.1.length+x5.length≤(4294967296:Nat)∧Zi15_4 c (IntKind.wrap IntKind.i64 (y.1+(1:Int)),y.2.1,(y.2.2.1.1,y.2.2.1.2.1,()),(y.2.2.2.1.1,y.2.2.2.1.2.1++x5,()),((ruC9 x2).b,(ruC9 x2).i,(ruC9 x2).h,()),())∧Zm15_4 c (IntKind.wrap IntKind.i64 (y.1+(1:Int)),y.2.1,(y.2.2.1.1,y.2.2.1.2.1,()),(y.2.2.2.1.1,y.2.2.2.1.2.1++x5,()),((ruC9 x2).b,(ruC9 x2).i,(ruC9 x2).h,()),())<Zm15_4 c y else(0:Nat)=(0:Nat)∧asD [DV.agg [CS y.2.2.2.1.1,CL .eRule y.2.2.2.1.2.1]]=asD [DV.agg [CS ((defD c).Name),CL .eRule (defD c).Rules]]∧asD [DV.box [CL .byte x2.b,CI x2.i,CI x2.h]]=asD [DV.box [CL .byte (defDC c).b,CI ((defDC c).i),CI ((defDC c).h)]] else(0:Nat)=(0:Nat)∧asD [DV.agg [CS y.2.2.2.1.1,CL .eRule y.2.2.2.1.2.1]]=asD [DV.agg [CS ((defD c).Name),CL .eRule (defD c).Rules]]∧asD [DV.box [CL .byte x2.b,CI x2.i,CI x2.h]]=asD [DV.box [CL .byte (defDC c).b,CI ((defDC c).i),CI ((defDC c).h)]]) (by kernel_rfl)
 dsimp only
 have hk:=cOk_str hp0 sLdef
 refine⟨hp0,by simp,⟨rfl,rfl,by omega,by omega,rfl,hk,rfl,rfl⟩,?_⟩
 rintro⟨i,ns,⟨q1,q2,⟨⟩⟩,⟨d1,d2,⟨⟩⟩,⟨cb,ci,ch,⟨⟩⟩,⟨⟩⟩ ⟨hns,hd,g1,g2,g3,g4,g5,g6⟩
 simp only at hns hd g1 g2 g3 g4 g5 g6⊢
 subst hns hd
 have hb:=belowV_lt (c:=⟨cb,ci,ch⟩) (n:=4) (by omega)
 have hB:=cOk_below g4 4
 rw[wrap_i64 (n:=1+belowV ⟨cb,ci,ch⟩ 4) (by omega) (by omega)]
 have stop:(defD c).Rules=d2∧defDC c=belowC ⟨cb,ci,ch⟩ 4→asD [DV.agg [.lit (.string (strV c sLdef)),.sl .eRule d2]]=asD [DV.agg [.lit (.string (defD c).Name),.sl .eRule (defD c).Rules]]∧asD [DV.box [.sl .byte (belowC ⟨cb,ci,ch⟩ 4).b,.lit (.int .i64 (belowC ⟨cb,ci,ch⟩ 4).i),.lit (.int .i64 (belowC ⟨cb,ci,ch⟩ 4).h)]]=asD [DV.box [.sl .byte (defDC c).b,.lit (.int .i64 (defDC c).i),.lit (.int .i64 (defDC c).h)]]:=fun e=>by
  rw[e.1,e.2];exact⟨rfl,rfl⟩
 refine⟨g4.1,g4.2,if_dec (fun hc=>if_dec (fun h4=> ?_) (fun h4=>⟨by trivial,stop ?_⟩)) (fun hc=>⟨by trivial,stop ?_⟩)⟩
 ·have e:(4-i).toNat=(4-(i+1)).toNat+1:=by omega
  have e2:(i+1).toNat=i.toNat+1:=by omega
  have e3:((i.toNat:Nat):Int)=i:=by omega
  rw[e] at g5 g6
  simp only[defL,defC,e3,if_pos hc] at g5 g6
  rw[wrap_i64 (n:=i+1) (by omega) (by omega)]
  have hl:sLrule.length=4:=rfl
  refine⟨g1,by omega,by omega,hB,by simp only[zbq,zbo];omega,⟨rfl,rfl,by omega,by omega,?_,cOk_ru9 hB,by simp only[e2];exact g5,by simp only[e2];exact g6⟩,by simp only[Zm15_4];omega⟩
  simp only[zce,zbq,zbo];omega
 ·have e:(4-i).toNat=0:=by omega
  rw[e] at g5 g6
  exact⟨g5.symm,g6.symm⟩
 ·have e3:((i.toNat:Nat):Int)=i:=by omega
  cases hn:(4-i).toNat with
  |zero=>rw[hn] at g5 g6;exact⟨g5.symm,g6.symm⟩
  |succ n=>
   rw[hn] at g5 g6
   simp only[defL,defC,e3,if_neg hc] at g5 g6
   exact⟨g5.symm,g6.symm⟩
def Zh15:HH:=⟨_,Zo15⟩
theorem argD_ok(c:DCur):argOk (argD c)=true:=by
 unfold argD;split
 ·simp[argOk]
 ·split
  ·have h:=smallV_ok (belowC c 6)
   simp[argOk,h]
  ·have h:=strV_all (belowC c 6) (l:=sLxyz) varOk (by decide) (by rfl)
   simp[argOk,h]
theorem termD_ok(c:DCur):termOk (termD c)=true:=by
 unfold termD;split
 ·have h:=smallV_ok (belowC c 3)
  simp[termOk,argOk,h]
 ·have h:=strV_all (belowC c 3) (l:=sLxy) varOk (by decide) (by rfl)
  simp[termOk,argOk,h]
theorem fitT_ok{vars:List ByteArray}(hv:∀s,s∈vars→varOk s=true){a:DArg}(ha:termOk a=true):termOk (fitT vars a)=true∧knownIn vars (fitT vars a)=true:=by
 unfold fitT;split
 ·rename_i h;exact⟨ha,h⟩
 ·split
  ·exact⟨by rfl,by rfl⟩
  ·have hm:List.getD vars 0 noBytes∈vars:=getD_in (by omega)
   have h1:=hv _ hm
   have h2:hasS vars (List.getD vars 0 noBytes)=true:=hasS_iff.2 hm
   exact⟨by simp only[termOk,argOk,h1];simp,by simp only[knownIn,h2,Bool.or_true]⟩
theorem exprD_ok{vars:List ByteArray}(hv:∀s,s∈vars→varOk s=true)(c:DCur):exprOk (fitE vars (exprD c))=true∧exprIn vars (fitE vars (exprD c))=true:=by
 have hz:knownIn vars zArg=true:=by rfl
 have h1:=fitT_ok hv (termD_ok c)
 unfold exprD;split
 ·have h2:=fitT_ok hv (termD_ok (strC (belowC (termDC c) 4) sLop))
  have h3:=strV_all (belowC (termDC c) 4) (l:=sLop) (fun s=> !decide (s=noBytes)&&(decide (s=bPlus)||decide (s=bMinus))) (by decide) (by rfl)
  simp only[zaf,zbd,decide_eq_false_iff_not] at h3
  obtain⟨h4,h5⟩:=h3
  simp only[fitE,exprOk,exprIn,if_neg h4,decide_eq_false h4,cond_false,h5,cond_true,h1.1,h1.2,h2.1,h2.2,Bool.and_self,and_self]
 ·simp only[fitE,exprOk,exprIn,if_true,decide_true,cond_true,h1.1,h1.2,hz,Bool.and_self,and_self]
theorem condD_ok{vars:List ByteArray}(hv:∀s,s∈vars→varOk s=true)(c:DCur):kondIn vars (fitC vars (condD c))=true:=by
 have hb:=belowV_lt (c:=c) (n:=3) (by omega)
 have h1:=fitT_ok hv (termD_ok (belowC c 3))
 have h2:=fitT_ok hv (termD_ok (termDC (belowC c 3)))
 simp only[kondIn,kondOk,fitC,condD,h1.1,h1.2,h2.1,h2.2,zdb]
 exact decide_eq_true ⟨by omega,by omega⟩
theorem actAs_ok{vars:List ByteArray}(hv:∀s,s∈vars→varOk s=true)(c:DCur):exprsOk ((actAs c).map (fitE vars))=true∧((actAs c).map (fitE vars)).all (exprIn vars)=true:=by
 have h:=iterL_all (f:=exprD) (g:=exprDC) (fun e=>exprOk (fitE vars e)=true∧exprIn vars (fitE vars e)=true) (exprD_ok hv) (actN c).toNat [] (actC2 c) (fun x hx=>by cases hx)
 have hl:=actAs_len c
 refine⟨?_,?_⟩
 ·simp only[exprsOk,zaf,decide_eq_true_eq,zcb,zco,zaz]
  exact⟨by omega,fun x ⟨e,he,hx⟩=>hx▸(h e he).1⟩
 ·simp only[zcb,zaz]
  exact fun x ⟨e,he,hx⟩=>hx▸(h e he).2
theorem actK_in(c:DCur):1≤actK c∧actK c≤6:=by
 have h:=intV_all c (l:=iLact) (fun k=>decide (1≤k∧k≤6)) (by decide) (by rfl)
 exact of_decide_eq_true h
theorem actD_ok{vars:List ByteArray}(hv:∀s,s∈vars→varOk s=true){pats:Int}(h0:1≤pats)(h1:pats≤3)(c:DCur):actIn vars pats (fitA vars (actD pats c))=true:=by
 have hb:=belowV_lt (c:=intC c iLact) (n:=pats) (by omega)
 have hn:nameOk (actName c)=true:=strV_all (intC c iLact) (l:=sLname) nameOk (by decide) (by rfl)
 obtain⟨e1,e2⟩:=actAs_ok hv c
 have hK:=actK_in c
 have hT:0≤actT c∧actT c≤100000:=by
  unfold actT;split
  ·have h:=intV_all (actC3 c) (l:=iLtime) (fun k=>decide (0≤k∧k≤100000)) (by decide) (by rfl)
   simpa using h
  ·omega
 unfold actD
 split
 ·rename_i k2
  simp only[actIn,fitA,actOk,bareA,dropIn,k2,List.map_nil,zbo,zes,zdb,decide_true,show¬((2:Int)=1) by decide,decide_false,cond_false,cond_true,zck,zaf,decide_eq_true_eq,zbd,decide_eq_false_iff_not]
  omega
 ·rename_i k2
  split
  ·rename_i k56
   have n1:¬actK c=1:=by omega
   have n3:¬actK c=3:=by omega
   have n4:¬actK c=4:=by omega
   have h5:(decide (actK c=5)||decide (actK c=6))=true:=by simpa using k56
   simp only[actIn,fitA,actOk,bareA,dropIn,decide_eq_false n1,decide_eq_false k2,decide_eq_false n3,decide_eq_false n4,h5,List.map_nil,zbo,zes,decide_true,cond_false,cond_true,zbi,zea,Bool.and_self,zdb]
  ·rename_i k56
   have hd:dropIn pats (fitA vars ⟨actK c,actName c,actAs c,actT c,actU c⟩)=true:=by simp[dropIn,fitA,k2]
   have ha:actOk (fitA vars ⟨actK c,actName c,actAs c,actT c,actU c⟩)=true:=by
    have hc:actK c=1∨actK c=3∨actK c=4:=by omega
    rcases hc with k|k|k
    ·have t0:actT c=0:=if_neg (by omega)
     have u0:actU c=noBytes:=if_neg (fun e=>by have:=e.1;omega)
     simp only[fitA,actOk,k,hn,e1,t0,u0,decide_true,cond_true,Bool.and_self]
    ·have t0:actT c=0:=if_neg (by omega)
     have u0:undoOk (actU c)=true:=by
      unfold actU;split
      ·have h:=strV_all (belowC (actC4 c) 2) (l:=sLundo) undoOk (by decide) (by rfl)
       exact h
      ·rfl
     simp only[fitA,actOk,k,hn,e1,t0,u0,decide_true,cond_true,show¬((3:Int)=1) by decide,show¬((3:Int)=2) by decide,decide_false,cond_false,Bool.and_self]
    ·have u0:actU c=noBytes:=if_neg (fun e=>by have:=e.1;omega)
     simp only[fitA,actOk,k,hn,e1,u0,decide_eq_true hT,decide_true,cond_true,show¬((4:Int)=1) by decide,show¬((4:Int)=2) by decide,show¬((4:Int)=3) by decide,decide_false,cond_false,Bool.and_self]
   simp only[actIn,hd,ha,zck]
   exact e2
theorem patD_ok(b:Bool)(c:DCur):patOk (patD b c)=true:=by
 have h1:nameOk (strV c sLkind)=true:=strV_all c (l:=sLkind) nameOk (by decide) (by rfl)
 have hl:=patN_le c
 have h2:=iterL_all (f:=argD) (g:=argDC) (fun a=>argOk a=true) argD_ok (patN c).toNat [] (strC c sLkind) (fun x hx=>by cases hx)
 have h3:=iterL_len argD argDC (patN c).toNat [] (strC c sLkind)
 simp only[zbo] at h3
 have h4:(patD b c).Args.length≤5:=by
  show(iterL argD argDC (patN c).toNat [] (strC c sLkind)).length≤5
  omega
 simp only[patOk,zaf,decide_eq_true_eq,zcb]
 exact⟨⟨h1,h4⟩,h2⟩
theorem ruP1_facts(c:DCur):(ruP1 c).length=(ruN c).toNat∧∀p,p∈ruP1 c→patOk p=true∧p.Not=false:=by
 refine⟨?_,iterL_all (f:=patD false) (g:=patDC) (fun p=>patOk p=true∧p.Not=false) (fun d=>⟨patD_ok false d,rfl⟩) (ruN c).toNat [] (ruC2 c) (fun x hx=>by cases hx)⟩
 rw[ruP1,iterL_len];simp
theorem posN_pos{ps:List DPat}(h:∀p,p∈ps→p.Not=false):posN ps=ps.length:=by
 rw[posN,List.filter_eq_self.2 (fun p hp=>by rw[h p hp];rfl)]
theorem ruPats_ok(c:DCur):patsOk (ruPats c)=true∧1≤posN (ruPats c)∧posN (ruPats c)≤3∧∀p,p∈ruPats c→patOk p=true:=by
 obtain⟨hl,hp⟩:=ruP1_facts c
 have hN:=ruN_le c
 have hP:=posN_pos (fun p h=>(hp p h).2)
 have main:∀ps:List DPat,(ps=ruP1 c∨∃q,ps=ruP1 c++[q]∧patOk q=true∧q.Not=true)→patsOkI ps=true∧1≤posN ps∧posN ps≤3∧∀p,p∈ps→patOk p=true:=by
  rintro ps (rfl|⟨q,rfl,hq,hn⟩)
  ·refine⟨?_,by omega,by omega,fun p h=>(hp p h).1⟩
   simp only[patsOkI,zaf,decide_eq_true_eq,allI_all,patAtI,beq_iff_eq]
   refine⟨⟨by omega,by omega⟩,fun j hj=> ?_⟩
   have hm:List.getD (ruP1 c) j zPat∈ruP1 c:=getD_in hj
   refine⟨(hp _ hm).1,?_⟩
   rw[notAt,(hp _ hm).2,decide_eq_false (by omega)]
  ·have hQ:posN (ruP1 c++[q])=(ruP1 c).length:=by
    rw[posN,List.filter_append,zce]
    have:(List.filter (fun p:DPat=> !p.Not) [q])=[]:=by simp[hn]
    rw[this];exact hP
   have hall:∀p,p∈ruP1 c++[q]→patOk p=true:=fun p h=>by
    rcases zao.1 h with h|h
    ·exact(hp p h).1
    ·rw[zau] at h;subst h;exact hq
   refine⟨?_,by omega,by omega,hall⟩
   simp only[patsOkI,zaf,decide_eq_true_eq,allI_all,patAtI,beq_iff_eq,zce,zbq,zbo,hQ]
   refine⟨⟨by omega,by omega⟩,fun j hj=> ?_⟩
   have hm:List.getD (ruP1 c++[q]) j zPat∈ruP1 c++[q]:=getD_in (by simp;omega)
   refine⟨hall _ hm,?_⟩
   by_cases h:j<(ruP1 c).length
   ·have e:List.getD (ruP1 c++[q]) j zPat=List.getD (ruP1 c) j zPat:=by
     rw[zac,zac,zaq h]
    have hm':List.getD (ruP1 c) j zPat∈ruP1 c:=getD_in h
    rw[notAt,e,(hp _ hm').2,decide_eq_false (by omega)]
   ·have e:List.getD (ruP1 c++[q]) j zPat=q:=by
     have:j=(ruP1 c).length:=by omega
     rw[zac,this,zap (zca _),zev];rfl
    rw[notAt,e,hn,decide_eq_true (by omega)]
 have:=main (ruPats c) (by
  unfold ruPats;split
  ·exact .inr ⟨_,rfl,patD_ok _ _,rfl⟩
  ·exact .inl rfl)
 rw[patsOkI_eq] at this
 exact this
theorem ruVars_ok(c:DCur):∀s,s∈ruVars c→varOk s=true:=by
 intro s hs
 obtain⟨p,hp,hn,a,ha,hk,rfl⟩:=posVarsS_mem.1 hs
 have h:=(ruPats_ok c).2.2.2 p hp
 simp only[patOk,zaf,zcb] at h
 have:=h.2 a ha
 simp only[argOk,hk,decide_true,cond_true,zaf] at this
 exact this.1
theorem ruleD_ok{name:ByteArray}(hn:nameOk name=true)(c:DCur):ruleOk (ruleD name c)=true:=by
 obtain⟨h1,h2,h3,_⟩:=ruPats_ok c
 have hv:=ruVars_ok c
 have hs:=intV_all c (l:=iLsal) (fun k=>decide (-100≤k∧k≤100)) (by decide) (by rfl)
 have hM:=ruM_le c
 have hk:kondsIn (ruConds c) (posVarsS (ruPats c))=true:=by
  unfold ruConds;split
  ·have:=condD_ok hv (ruC6 c)
   simp only[kondsIn,zbq,zbo,zdr,zes,zdb]
   rw[show kondIn (posVarsS (ruPats c)) (fitC (ruVars c) (condD (ruC6 c)))=true from this];rfl
  ·rfl
 have ha:actsIn (ruActs c) (posVarsS (ruPats c)) (posN (ruPats c))=true:=by
  have h:=iterL_all (f:=ruAct c) (g:=ruActC c) (fun a=>actIn (ruVars c) (posN (ruPats c)) a=true) (fun d=>actD_ok hv (by omega) (by omega) d) (ruM c).toNat [] (ruC8 c) (fun x hx=>by cases hx)
  have hl:(ruActs c).length=(ruM c).toNat:=by rw[ruActs,iterL_len];simp
  simp only[actsIn,zaf,decide_eq_true_eq,zcb]
  exact⟨⟨by omega,by omega⟩,h⟩
 simp only[ruleOk,ruleD,hn,h1,hk,ha,zdb,zck]
 exact hs
theorem nameK{s:ByteArray}(h:nameOk s=true):s.size≤12:=by
 simp only[nameOk,zaf,decide_eq_true_eq] at h
 exact h.1.1.2
theorem argK{a:DArg}(h:argOk a=true):sizeArg a≤40:=by
 have hz:zVal.S.size=0:=rfl
 have hn:noBytes.size=0:=rfl
 simp only[argOk,varOk] at h
 simp only[sizeArg,sizeVal]
 by_cases k1:a.K=1
 ·simp only[decide_eq_true k1,cond_true,zaf,decide_eq_true_eq] at h
  rw[h.2,hz];omega
 ·by_cases k2:a.K=2
  ·simp only[decide_eq_false k1,decide_eq_true k2,cond_true,cond_false,zaf,decide_eq_true_eq] at h
   have:=valK h.1
   rw[h.2,hn];omega
  ·by_cases k3:a.K=3
   ·simp only[decide_eq_false k1,decide_eq_false k2,decide_eq_true k3,cond_true,cond_false,zaf,decide_eq_true_eq] at h
    rw[h.1,h.2,hz,hn];omega
   ·simp only[decide_eq_false k1,decide_eq_false k2,decide_eq_false k3,cond_false] at h
    cases h
theorem termK{a:DArg}(h:termOk a=true):sizeArg a≤40:=by
 simp only[termOk,zaf] at h
 exact argK h.1
theorem patK{p:DPat}(h:patOk p=true):sizePat p≤217:=by
 simp only[patOk,zaf,decide_eq_true_eq,zcb] at h
 have h1:=nameK h.1.1
 have h2:=sumK sizeArg 40 p.Args (fun a ha=>argK (h.2 a ha))
 simp only[sizePat,sizeArgS];omega
theorem kondK{c:DCond}(h:kondOk c=true):sizeCond c≤80:=by
 simp only[kondOk,zaf] at h
 have h1:=termK h.1.2
 have h2:=termK h.2
 simp only[sizeCond];omega
theorem exprK{e:DExpr}(h:exprOk e=true):sizeExpr e≤81:=by
 have hz:sizeArg zArg=0:=rfl
 have hn:noBytes.size=0:=rfl
 have hp:bPlus.size=1:=rfl
 have hm:bMinus.size=1:=rfl
 simp only[exprOk] at h
 simp only[sizeExpr]
 by_cases k:e.Op=noBytes
 ·simp only[decide_eq_true k,cond_true,zaf,decide_eq_true_eq] at h
  have:=termK h.1
  rw[k,h.2,hz,hn];omega
 ·simp only[decide_eq_false k,cond_false] at h
  by_cases k2:e.Op=bPlus
  ·simp only[k2,decide_true,Bool.true_or,cond_true,zaf] at h
   have h1:=termK h.1
   have h2:=termK h.2
   rw[k2,hp];omega
  ·by_cases k3:e.Op=bMinus
   ·simp only[k3,decide_true,Bool.or_true,cond_true,zaf] at h
    have h1:=termK h.1
    have h2:=termK h.2
    rw[k3,hm];omega
   ·simp only[decide_eq_false k2,decide_eq_false k3,Bool.or_self,cond_false] at h
    cases h
theorem exprsK{l:List DExpr}(h:exprsOk l=true):sizeExprS l≤410:=by
 simp only[exprsOk,zaf,decide_eq_true_eq,zcb] at h
 have h2:=sumK sizeExpr 81 l (fun a ha=>exprK (h.2 a ha))
 simp only[sizeExprS];omega
theorem actSizeK{a:DAct}(h:actOk a=true):sizeAct a≤434:=by
 have hn:noBytes.size=0:=rfl
 have h1:(nameOk a.Name=true∨a.Name=noBytes)∧(exprsOk a.Args=true∨a.Args.length=0)∧(undoOk a.Undo=true∨a.Undo=noBytes):=by
  simp only[actOk,bareA] at h
  grind
 obtain⟨g1,g2,g3⟩:=h1
 have e1:a.Name.size≤12:=by
  rcases g1 with g|g
  ·exact nameK g
  ·rw[g,hn];omega
 have e2:sizeExprS a.Args≤410:=by
  rcases g2 with g|g
  ·exact exprsK g
  ·have:a.Args=[]:=List.length_eq_zero_iff.1 g
   rw[this];simp[sizeExprS]
 have e3:a.Undo.size≤12:=by
  rcases g3 with g|g
  ·exact undoK g
  ·rw[g,hn];omega
 simp only[sizeAct];omega
theorem ruleK{r:DRule}(h:ruleOk r=true):sizeRule r≤5000:=by
 have hs:=rule_small h
 have hp:patsOkI r.Pats=true:=by
  simp only[ruleOk,zaf] at h
  rw[patsOkI_eq];exact h.1.1.2
 simp only[patsOkI,zaf,decide_eq_true_eq,allI_all,patAtI] at hp
 simp only[ruleOk,kondsIn,actsIn,zaf,decide_eq_true_eq,zcb,kondIn,actIn] at h
 obtain⟨⟨⟨⟨h1,_⟩,_⟩,⟨h2,h3⟩⟩,⟨⟨_,h4⟩,h5⟩⟩:=h
 have n1:=nameK h1
 have s1:=sumK sizePat 217 r.Pats (fun p hpm=>by
  obtain⟨j,hj,rfl⟩:=zbk hpm
  have:=(hp.2 j hj).1
  rw[zac,zad hj] at this
  exact patK this)
 have s2:=sumK sizeCond 80 r.Conds (fun c hc=>kondK (h3 c hc).1.1)
 have s3:=sumK sizeAct 434 r.Acts (fun a ha=>actSizeK (h5 a ha).1.1)
 have:=hs.1.pats
 simp only[sizeRule,sizePatS,sizeCondS,sizeActS];omega
theorem defK{d:DDef}(h:defOk d=true):sizeDef d≤61000:=by
 simp only[defOk,zaf,decide_eq_true_eq,allI_all,defAtR] at h
 have n1:=nameK h.1.1
 have s1:=sumK sizeRule 5000 d.Rules (fun r hr=>by
  obtain⟨j,hj,rfl⟩:=zbk hr
  have:=(h.2 j hj).1
  rw[zac,zad hj] at this
  exact ruleK this)
 simp only[sizeDef,sizeRuleS];omega
theorem defL_spec:∀(k i:Nat)(l:List DRule)(c:DCur),∃t:List DRule,defL k i l c=l++t∧t.length≤k∧(1≤k→i=0→1≤t.length)∧∀j,j<t.length→∃d,List.getD t j zRule=ruleD (List.getD sLrule (i+j) noBytes) d
 |0,i,l,c=>⟨[],by simp[defL],by simp,by omega,fun j hj=>by simp at hj⟩
 |k+1,i,l,c=>by
  have hb:=belowV_lt (c:=c) (n:=4) (by omega)
  unfold defL
  split
  ·obtain⟨t,h1,h2,_,h4⟩:=defL_spec k (i+1) (l++[ruleD (List.getD sLrule i noBytes) (belowC c 4)]) (ruC9 (belowC c 4))
   refine⟨ruleD (List.getD sLrule i noBytes) (belowC c 4)::t,by rw[h1,zbr];rfl,by simp only[zbq];omega,fun _ _=>by simp only[zbq];omega,fun j hj=> ?_⟩
   cases j with
   |zero=>exact⟨belowC c 4,rfl⟩
   |succ j=>
    obtain⟨d,hd⟩:=h4 j (by simp only[zbq] at hj;omega)
    exact⟨d,by rw[show i+(j+1)=i+1+j by omega];exact hd⟩
  ·rename_i h
   exact⟨[],by simp,by simp,fun _ hi=>by omega,fun j hj=>by simp at hj⟩
theorem sLrule_ok:∀j,j<4→nameOk (List.getD sLrule j noBytes)=true:=by decide
theorem sLrule_ne:∀j,j<4→∀k,k<j→¬List.getD sLrule k noBytes=List.getD sLrule j noBytes:=by decide
theorem defD_ok(c:DCur):defOk (defD c)=true:=by
 obtain⟨t,h1,h2,h3,h4⟩:=defL_spec 4 0 [] (strC c sLdef)
 have e:(defD c).Rules=t:=h1
 have hn:nameOk (defD c).Name=true:=strV_all c (l:=sLdef) nameOk (by decide) (by rfl)
 simp only[defOk,zaf,decide_eq_true_eq,allI_all,defAtR,hn,e,true_and]
 have h3:=h3 (by omega) rfl
 refine⟨⟨by omega,by omega⟩,fun j hj=> ?_⟩
 obtain⟨d,hd⟩:=h4 j hj
 rw[zbw] at hd
 refine⟨by rw[hd];exact ruleD_ok (sLrule_ok j (by omega)) d,?_⟩
 refine idxI_found (i:=j) hj (by simp) (fun k hk=>decide_eq_false fun e=> ?_)
 obtain⟨d',hd'⟩:=h4 k (by omega)
 rw[zbw] at hd'
 rw[hd,hd'] at e
 exact sLrule_ne j (by omega) k hk e
theorem defD_facts(c:DCur):(∀r,r∈(defD c).Rules→smallR r∧firstP r)∧(defD c).Rules.length≤12∧sizeDef (defD c)≤61000:=
 ⟨(def_small (defD_ok c)).1,(def_small (defD_ok c)).2,defK (defD_ok c)⟩
def bareF(f:DFact):Bool:=decide (f.Kind=noBytes)&&decide (f.Fields.length=0)
def effectOk(e:DEffect):Bool:=
 bif decide (e.Kind=1) then factOk e.F&&decide (e.Id=0)&&decide (e.N=0)&&decide (e.Undo=noBytes)
 else bif decide (e.Kind=2) then bareF e.F&&decide (1≤e.Id)&&decide (e.N=0)&&decide (e.Undo=noBytes)
 else bif decide (e.Kind=3) then factOk e.F&&decide (e.Id=0)&&decide (e.N=0)&&undoOk e.Undo
 else bif decide (e.Kind=4) then factOk e.F&&decide (e.Id=0)&&decide (0≤e.N∧e.N≤100000)&&decide (e.Undo=noBytes)
 else bif decide (e.Kind=5)||decide (e.Kind=6) then bareF e.F&&decide (e.Id=0)&&decide (e.N=0)&&decide (e.Undo=noBytes) else false
def effS(m:DMatch)(a:DAct):DEffect:=if a.Kind=2 then⟨a.Kind,zFact,List.getD m.Ids a.N.toNat 0,0,a.Undo⟩ else⟨a.Kind,⟨a.Name,compsV a.Args m.Binds⟩,0,if a.Kind=4 then a.N else 0,a.Undo⟩
def okS(m:DMatch)(a:DAct):Bool:=(decide (a.Kind=2)||compsB a.Args m.Binds)&&effectOk (effS m a)
def calcA(a:DAct):Bool:=decide (a.Kind=1)||decide (a.Kind=3)||decide (a.Kind=4)
def effI(m:DMatch)(a:DAct):DEffect:=if a.Kind=2 then⟨a.Kind,zFact,List.getD m.Ids a.N.toNat 0,0,noBytes⟩ else if calcA a then(if compsB a.Args m.Binds then⟨a.Kind,⟨a.Name,compsV a.Args m.Binds⟩,0,a.N,a.Undo⟩ else zEffect) else⟨a.Kind,zFact,0,0,noBytes⟩
def okI(m:DMatch)(a:DAct):Bool:=(!calcA a||compsB a.Args m.Binds)&&effectOk (effI m a)
theorem act_same{m:DMatch}{a:DAct}(h:actOk a=true):okI m a=okS m a∧(okS m a=true→effI m a=effS m a):=by
 obtain⟨K,Nm,As,N,U⟩:=a
 by_cases h1:K=1
 ·subst h1
  simp only[actOk,decide_true,cond_true,zaf,decide_eq_true_eq] at h
  obtain⟨⟨⟨a1,a2⟩,rfl⟩,rfl⟩:=h
  cases hc:compsB As m.Binds<;>simp[okI,okS,effI,effS,calcA,hc]
 by_cases h2:K=2
 ·subst h2
  simp only[actOk,bareA,show¬((2:Int)=1) by decide,decide_false,cond_false,decide_true,cond_true,zaf,decide_eq_true_eq] at h
  obtain⟨⟨⟨a1,a2⟩,rfl⟩,a3⟩:=h
  simp[okI,okS,effI,effS,calcA]
 by_cases h3:K=3
 ·subst h3
  simp only[actOk,show¬((3:Int)=1) by decide,show¬((3:Int)=2) by decide,decide_false,cond_false,decide_true,cond_true,zaf,decide_eq_true_eq] at h
  obtain⟨⟨⟨a1,a2⟩,rfl⟩,a3⟩:=h
  cases hc:compsB As m.Binds<;>simp[okI,okS,effI,effS,calcA,hc]
 by_cases h4:K=4
 ·subst h4
  cases hc:compsB As m.Binds<;>simp[okI,okS,effI,effS,calcA,hc]
 ·have hb:Nm=noBytes∧As.length=0∧U=noBytes∧N=0:=by
   simp only[actOk,bareA] at h
   grind
  obtain⟨rfl,ha,rfl,rfl⟩:=hb
  have ha:As=[]:=zbh ha
  subst ha
  have hc:compsB [] m.Binds=true:=rfl
  have hv:compsV [] m.Binds=[]:=rfl
  simp[okI,okS,effI,effS,calcA,hc,hv,h1,h2,h3,h4,zFact]
def actsOf(d:DDef)(m:DMatch):List DAct:=(List.getD d.Rules m.Rule.toNat zRule).Acts
def mayE(d:DDef)(m:DMatch):Bool:=hasR d m&&decide (m.Ids.length=posN (List.getD d.Rules m.Rule.toNat zRule).Pats)
def effOk(d:DDef)(m:DMatch):Bool:=defOk d&&mayE d m&&(actsOf d m).all (okS m)
def effs(d:DDef)(m:DMatch):List DEffect:=if effOk d m then(actsOf d m).map (effS m) else[]
end
end AM
