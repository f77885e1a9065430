/- Functions of the program with their contracts: put together by gen/link.py for FnExactEffectsOf. -/
import Derived.Test.YtmoijfaceanakaaGreatAmLib
import Derived.Test.YtmoijfaceanakaaGreatFExactEffectsOf2
namespace AM
open Go
set_option linter.unusedVariables false
set_option linter.unusedSimpArgs false
set_option maxRecDepth 100000
noncomputable section
def Zk87:Con UU where
 α:=DDef×DMatch
 md:=[.ro,.ro]
 of:=oC (oA .eDef) (o1 (oA .eMatch))
 ds:=fun x=>[dA .eDef x.1,dA .eMatch x.2]
 pre:=fun(d,m)=>[sizeDef d≤4294967295,defOk d=true]
 res:=fun(d,m)=>⟨[.one (.sl .eEffect (effs d m)),.one (.lit (.bool (effOk d m)))],true,[]⟩
 law:=lC (lA .eDef) (l1 (lA .eMatch))
def Zi87_5(d:DDef)(m:DMatch):List DEffect×Int×(ByteArray×List DRule×Unit)×(Int×List Int×List DBind×Unit)×Unit→Prop:=fun(o,i,b,g,_)=>b=(d.Name,d.Rules,())∧g=(m.Rule,m.Ids,m.Binds,())∧mayE d m=true∧0≤i∧i≤(actsOf d m).length∧o=((actsOf d m).take i.toNat).map (effS m)∧((actsOf d m).drop i.toNat).all (okS m)=(actsOf d m).all (okS m)
def Zm87_5(d:DDef)(m:DMatch):List DEffect×Int×(ByteArray×List DRule×Unit)×(Int×List Int×List DBind×Unit)×Unit→Nat:=fun(o,i,b,g,_)=>(actsOf d m).length-i.toNat
def Za87:Zk87.α→Nat→Option (Ann UU):=fun(d,m)=>annL [(5,annOf [.slot 6 (6,1024) (.own .eEffect true),.slot 36 (36,1024) (.lit (.int .i64)),.box 2 (2,1024) [.lit .str,.shr .eRule],.box 3 (3,1024) [.lit (.int .i64),.shr .int,.shr .eBind]] (fun _=>Zi87_5 d m) (Zm87_5 d m))]
def Zu87:=us [Zh124,Zh125,Zh147]
theorem Zv87(d:DDef)(m:DMatch):goal EE Zu87 Go.Proofs.Tryz.f87 Zk87 Za87 (d,m)=(let x0:List DAct:=(List.getD d.Rules m.Rule.toNat zRule).Acts;
bif !hasR d m then Lf [DV.one (Cell.sl Cd.eEffect []),DV.one (Cell.lit (Value.bool false))] [DV.one (Cell.sl Cd.eEffect (effs d m)),DV.one (Cell.lit (Value.bool (effOk d m)))]
else
 (0:Int)≤m.Rule∧
  Int.toNat m.Rule<List.length d.Rules∧
   bif (↑(List.length m.Ids):Int) !=(↑(posN (List.getD d.Rules (Int.toNat m.Rule) zRule).Pats):Int) then Lf [DV.one (Cell.sl Cd.eEffect []),DV.one (Cell.lit (Value.bool false))] [DV.one (Cell.sl Cd.eEffect (effs d m)),DV.one (Cell.lit (Value.bool (effOk d m)))]
   else
    (0:Int)≤m.Rule∧
     Int.toNat m.Rule<List.length d.Rules∧
      Zi87_5 d m ([],(0:Int),(d.Name,d.Rules,PUnit.unit),(m.Rule,m.Ids,m.Binds,PUnit.unit),PUnit.unit)∧
       ∀(y:List DEffect×Int×(ByteArray×List DRule×PUnit)×(Int×List Int×List DBind×PUnit)×PUnit),
        let x2:DMatch:={Rule:=y.2.2.2.1.1,Ids:=y.2.2.2.1.2.1,Binds:=y.2.2.2.1.2.2.1:DMatch};
        let x4:Nat:=Int.toNat y.2.1;
        let x3:DAct:=List.getD x0 x4 zAct;
        let x1:List DEffect:=[effI x2 x3];
        Zi87_5 d m y→bif decide (y.2.1<(↑(List.length x0):Int)) then(0:Int)≤y.2.1∧x4<List.length x0∧(x3.Kind=(2:Int)→(0:Int)≤x3.N∧x3.N<(↑(List.length y.2.2.2.1.2.1):Int))∧List.length x3.Args≤(4294967295:Nat)∧bif !okI x2 x3 then Lf [DV.one (Cell.sl Cd.eEffect []),DV.one (Cell.lit (Value.bool false))] [DV.one (Cell.sl Cd.eEffect (effs d m)),DV.one (Cell.lit (Value.bool (effOk d m)))] else List.length y.1+List.length x1≤(4294967296:Nat)∧Zi87_5 d m (y.1++x1,IntKind.wrap IntKind.i64 (y.2.1+(1:Int)),(y.2.2.1.1,y.2.2.1.2.1,PUnit.unit),(y.2.2.2.1.1,y.2.2.2.1.2.1,y.2.2.2.1.2.2.1,PUnit.unit),PUnit.unit)∧Zm87_5 d m (y.1++x1,IntKind.wrap IntKind.i64 (y.2.1+(1:Int)),(y.2.2.1.1,y.2.2.1.2.1,PUnit.unit),(y.2.2.2.1.1,y.2.2.2.1.2.1,y.2.2.2.1.2.2.1,PUnit.unit),PUnit.unit)<Zm87_5 d m y else Lf [DV.one (Cell.sl Cd.eEffect y.1),DV.one (Cell.lit (Value.bool true))] [DV.one (Cell.sl Cd.eEffect (effs d m)),DV.one (Cell.lit (Value.bool (effOk d m)))]):=by kernel_rfl
theorem Zo87:Holds EE (87,Zk87):=by
 refine holds_of EE_ok Go.Proofs.Tryz.func87 Zk87 (by kernel_rfl) Zu87 (us_ok _) Za87 (fun x hp hb=> ?_)
 obtain⟨d,m⟩:=x
 have hz0:=bd_eDef (x:=d) (hb _ m0)
 have hl_d_Name:=hz0.1
 have hl_d_Rules:=hz0.2
 have hz1:=bd_eMatch (x:=m) (hb _ m1)
 have hl_m_Ids:=hz1.1
 have hl_m_Binds:=hz1.2
 have hp0:sizeDef d≤4294967295:=hp _ m0
 have hp1:defOk d=true:=hp _ m1
 clear hp hb
 rw[Zv87 d m]
 dsimp only
 have hd:=hp1
 refine if_not (fun h=>eff_no (eff_no1 (by rw[mayE,show hasR d m=false from h];rfl))) (fun hr=> ?_)
 obtain⟨r1,r2⟩:=hasR_iff hr
 refine⟨r1,by omega,if_neq (fun h=>eff_no (eff_no1 (by rw[mayE,decide_eq_false (show¬m.Ids.length=posN (List.getD d.Rules m.Rule.toNat zRule).Pats by omega)];simp))) (fun hl=> ?_)⟩
 have hmay:mayE d m=true:=by rw[mayE,show hasR d m=true from hr,decide_eq_true (show m.Ids.length=posN (List.getD d.Rules m.Rule.toNat zRule).Pats by omega)];rfl
 obtain⟨ha1,ha2⟩:=acts_of hd hmay
 refine⟨r1,by omega,⟨rfl,rfl,hmay,by omega,by omega,by simp,rfl⟩,?_⟩
 rintro⟨o,i,⟨b1,b2,⟨⟩⟩,⟨g1,g2,g3,⟨⟩⟩,⟨⟩⟩ ⟨hb,hg,-,h1,h2,rfl,hR⟩
 cases hb
 cases hg
 have hx:(List.getD d.Rules m.Rule.toNat zRule).Acts=actsOf d m:=rfl
 simp only[hx]
 refine if_dec (fun hc=> ?_) (fun hc=> ?_)
 ·obtain⟨a1,a2⟩:=ha2 i h1 hc
  have has:=act_args hr h1 hc
  rw[all_step _ _ zAct h1 hc] at hR
  obtain⟨s1,s2⟩:=act_same (m:=m) a1
  refine⟨h1,by omega,a2,by omega,if_not (fun g=> ?_) (fun g=> ?_)⟩
  ·exact eff_no (eff_all (by rw[←hR,show okS m (List.getD (actsOf d m) i.toNat zAct)=false from(s1.symm.trans g)];rfl))
  ·have g':okS m (List.getD (actsOf d m) i.toNat zAct)=true:=s1.symm.trans g
   rw[g',Bool.true_and] at hR
   have hm:((actsOf d m).take i.toNat).map (effS m)++[effI m (List.getD (actsOf d m) i.toNat zAct)]=((actsOf d m).take (i+1).toNat).map (effS m):=by rw[←take_step (actsOf d m) zAct h1 hc,List.map_append,s2 g'];rfl
   rw[wrap_i64 (by omega) (by omega)]
   exact⟨by simp only[List.length_map,List.length_take,List.length_cons,List.length_nil];omega,⟨rfl,rfl,hmay,by omega,by omega,hm,hR⟩,by simp only[Zm87_5];omega⟩
 ·have e:(actsOf d m).drop i.toNat=[]:=List.drop_eq_nil_of_le (by omega)
  rw[e] at hR
  have hf:effOk d m=true:=by rw[effOk,hmay,←hR,show defOk d=true from hd];rfl
  rw[take_all (actsOf d m) (by omega)]
  exact LfES (by rw[effs,if_pos hf]) hf.symm
def Zh87:HH:=⟨_,Zo87⟩
def Zk22:Con UU where
 α:=DDef×DMatch
 md:=[.ro,.ro]
 of:=oC (oA .eDef) (o1 (oA .eMatch))
 ds:=fun x=>[dA .eDef x.1,dA .eMatch x.2]
 pre:=fun(d,m)=>[sizeDef d≤4294967295]
 res:=fun(d,m)=>⟨[.one (.sl .eEffect (effs d m)),.one (.lit (.bool (effOk d m)))],true,[]⟩
 law:=lC (lA .eDef) (l1 (lA .eMatch))
def Za22:Zk22.α→Nat→Option (Ann UU):=fun(d,m)=>annL []
def Zu22:=us [Zh51,Zh87]
theorem Zv22(d:DDef)(m:DMatch):goal EE Zu22 Go.Proofs.Tryz.f22 Zk22 Za22 (d,m)=(bif !defOk d then Lf [DV.one (Cell.sl Cd.eEffect []),DV.one (Cell.lit (Value.bool false))] [DV.one (Cell.sl Cd.eEffect (effs d m)),DV.one (Cell.lit (Value.bool (effOk d m)))] else sizeDef d≤(4294967295:Nat)∧defOk d=true∧Lf [DV.one (Cell.sl Cd.eEffect (effs d m)),DV.one (Cell.lit (Value.bool (effOk d m)))] [DV.one (Cell.sl Cd.eEffect (effs d m)),DV.one (Cell.lit (Value.bool (effOk d m)))]):=by kernel_rfl
theorem Zo22:Holds EE (22,Zk22):=by
 refine holds_of EE_ok Go.Proofs.Tryz.func22 Zk22 (by kernel_rfl) Zu22 (us_ok _) Za22 (fun x hp hb=> ?_)
 obtain⟨d,m⟩:=x
 have hz0:=bd_eDef (x:=d) (hb _ m0)
 have hl_d_Name:=hz0.1
 have hl_d_Rules:=hz0.2
 have hz1:=bd_eMatch (x:=m) (hb _ m1)
 have hl_m_Ids:=hz1.1
 have hl_m_Binds:=hz1.2
 have hp0:sizeDef d≤4294967295:=hp _ m0
 clear hp hb
 rw[Zv22 d m]
 refine if_not (fun h=>eff_no (by rw[effOk,show defOk d=false from h];rfl)) (fun h=>⟨hp0,h,Lf_rfl _⟩)
def Zh22:HH:=⟨_,Zo22⟩
theorem valK{v:DVal}(h:valOk v=true):v.S.size≤21:=by
 simp only[valOk] at h
 by_cases h1:v.K=1
 ·simp[h1] at h;rw[h.2];simp[noBytes]
 ·by_cases h2:v.K=2
  ·simp[h2] at h;omega
  ·simp[h1,h2] at h
theorem valsK:∀{l:List DVal},l.all valOk=true→sizeValS l≤22*l.length
 |[],_=>by simp[sizeValS]
 |x::l,h=>by
  simp only[List.all_cons,Bool.and_eq_true] at h
  have h1:=valsK h.2
  have h2:=valK h.1
  simp only[sizeValS,List.length_cons,List.map_cons,List.sum_cons,sizeVal] at h1⊢
  omega
theorem factK{f:DFact}(h:factOk f=true):f.Fields.length≤5∧sizeFact f≤145:=by
 simp only[factOk,nameOk,Bool.and_eq_true,decide_eq_true_eq] at h
 obtain⟨⟨⟨⟨⟨_,h1⟩,_⟩,_⟩,h2⟩,h3⟩:=h
 have:=valsK h3
 simp only[sizeFact];omega
theorem sumK{α:Type}(f:α→Nat)(B:Nat):∀(l:List α),(∀x∈l,f x≤B)→(l.map f).sum≤l.length*B
 |[],_=>by simp
 |x::l,h=>by
  have h1:=sumK f B l (fun y hy=>h y (List.mem_cons_of_mem _ hy))
  have h2:=h x List.mem_cons_self
  simp only[List.map_cons,List.sum_cons,List.length_cons,Nat.add_mul];omega
theorem undoK{u:ByteArray}(h:undoOk u=true):u.size≤12:=by
 simp only[undoOk,nameOk,Bool.or_eq_true,Bool.and_eq_true,decide_eq_true_eq] at h
 rcases h with rfl|h
 ·simp[noBytes]
 ·exact h.1.1.2
theorem eff_size{e:DEffect}(h:effectOk e=true):sizeEffect e≤160:=by
 have hb:bareF e.F=true→sizeFact e.F=0:=fun h=>by
  simp only[bareF,Bool.and_eq_true,decide_eq_true_eq] at h
  have h2:e.F.Fields=[]:=List.length_eq_zero_iff.1 h.2
  simp only[sizeFact,h.1,h2];rfl
 have hu:e.Undo=noBytes→e.Undo.size=0:=fun h=>by rw[h];rfl
 have hf:(factOk e.F=true∨bareF e.F=true)∧(e.Undo=noBytes∨undoOk e.Undo=true):=by
  simp only[effectOk] at h
  grind
 have h1:sizeFact e.F≤145:=by
  rcases hf.1 with g|g
  ·exact(factK g).2
  ·rw[hb g];omega
 have h2:e.Undo.size≤12:=by
  rcases hf.2 with g|g
  ·rw[hu g];omega
  ·exact undoK g
 simp only[sizeEffect];omega
theorem effs_size(d:DDef)(m:DMatch):sizeEffectS (effs d m)≤1000:=by
 unfold effs
 split
 ·rename_i h
  simp only[effOk,Bool.and_eq_true] at h
  have ha:=(acts_of h.1.1 h.1.2).1
  have:=sumK sizeEffect 160 ((actsOf d m).map (effS m)) (fun e he=>by
   obtain⟨a,h1,rfl⟩:=List.mem_map.1 he
   have:=List.all_eq_true.1 h.2 a h1
   simp only[okS,Bool.and_eq_true] at this
   exact eff_size this.2)
  simp only[sizeEffectS,List.length_map] at this⊢
  omega
 ·simp[sizeEffectS]
def con_laws_FnExactEffectsOf:Con UU where
 α:=DDef×DMatch
 md:=[.ro,.ro]
 of:=oC (oA .lDef) (o1 (oA .lMatch))
 ds:=fun x=>[dA .lDef x.1,dA .lMatch x.2]
 pre:=fun _=>[]
 res:=fun(aD,aM)=>⟨[.one (.lit (.bool true))],true,[]⟩
 law:=lC (lA .lDef) (l1 (lA .lMatch))
def ann_laws_FnExactEffectsOf:con_laws_FnExactEffectsOf.α→Nat→Option (Ann UU):=fun(aD,aM)=>annL []
def use_laws_FnExactEffectsOf:=us [Zh6,Zh19,Zh9,Zh21,Zh20,Zh22,Zh23,Zh12,Zh24,Zh25,Zh26,Zh27,Zh28]
theorem vc_laws_FnExactEffectsOf(aD:DDef)(aM:DMatch):goal EE use_laws_FnExactEffectsOf Go.Proofs.Tryz.f5 con_laws_FnExactEffectsOf ann_laws_FnExactEffectsOf (aD,aM)=(let x2:Int:=(1:Int)+(↑(ctDef aD):Int);
let x3:Bool:= !decide (effs aD aM=effs aD aM);
let x5:Int:=szr (1048576:Int) (sizeDef aD);
let x7:Bool:= !effOk aD aM==effOk aD aM;
let x8:Int:=(1:Int)+(↑(cntEffectS (effs aD aM)):Int);
let x9:List DEffect:=markEffectS (effs aD aM) (1:Int);
let x4:Int:=(1:Int)+(↑(cntEffectS x9):Int);
let x1:Int:=if markEffectS x9 (1:Int)=x9 then x4 else(-1:Int);
let x6:Bool:=x1 !=x8;
let x0:Bool:=decide (x1<(0:Int));
(0:Int)≤(1048576:Int)∧bif decide (x5<(0:Int)) then Lf [DV.one (Cell.lit (Value.bool true))] [DV.one (Cell.lit (Value.bool true))] else(0:Int)≤x5∧bif decide (szr x5 (sizeMatch aM)<(0:Int)) then Lf [DV.one (Cell.lit (Value.bool true))] [DV.one (Cell.lit (Value.bool true))] else sizeDef aD≤(4294967296:Nat)∧sizeMatch aM≤(4294967296:Nat)∧sizeDef aD≤(4294967295:Nat)∧sizeDef aD≤(4294967296:Nat)∧sizeMatch aM≤(4294967296:Nat)∧sizeDef aD≤(4294967295:Nat)∧bif x3 then Lf [DV.one (Cell.lit (Value.bool false))] [DV.one (Cell.lit (Value.bool true))] else bif x7 then Lf [DV.one (Cell.lit (Value.bool false))] [DV.one (Cell.lit (Value.bool true))] else sizeDef aD≤(4294967296:Nat)∧bif !decide (aD=aD) then Lf [DV.one (Cell.lit (Value.bool false))] [DV.one (Cell.lit (Value.bool true))] else sizeMatch aM≤(4294967296:Nat)∧bif !decide (aM=aM) then Lf [DV.one (Cell.lit (Value.bool false))] [DV.one (Cell.lit (Value.bool true))] else(0:Int)≤(1:Int)∧x2≤(4611686018427387904:Int)∧(0:Int)≤x2∧x2+(↑(ctMatch aM):Int)≤(4611686018427387904:Int)∧bif x3 then Lf [DV.one (Cell.lit (Value.bool false))] [DV.one (Cell.lit (Value.bool true))] else bif x7 then Lf [DV.one (Cell.lit (Value.bool false))] [DV.one (Cell.lit (Value.bool true))] else(0:Int)≤(1:Int)∧x8≤(4611686018427387904:Int)∧(0:Int)≤(1:Int)∧x4≤(4611686018427387904:Int)∧bif x0 then Lf [DV.one (Cell.lit (Value.bool false))] [DV.one (Cell.lit (Value.bool true))] else bif x6 then Lf [DV.one (Cell.lit (Value.bool false))] [DV.one (Cell.lit (Value.bool true))] else sizeDef aD≤(4294967296:Nat)∧sizeMatch aM≤(4294967296:Nat)∧sizeDef aD≤(4294967295:Nat)∧bif x3 then Lf [DV.one (Cell.lit (Value.bool false))] [DV.one (Cell.lit (Value.bool true))] else bif x7 then Lf [DV.one (Cell.lit (Value.bool false))] [DV.one (Cell.lit (Value.bool true))] else(0:Int)≤(1:Int)∧x4≤(4611686018427387904:Int)∧bif x0 then Lf [DV.one (Cell.lit (Value.bool false))] [DV.one (Cell.lit (Value.bool true))] else bif x6 then Lf [DV.one (Cell.lit (Value.bool false))] [DV.one (Cell.lit (Value.bool true))] else Lf [DV.one (Cell.lit (Value.bool true))] [DV.one (Cell.lit (Value.bool true))]):=by kernel_rfl
theorem ok_laws_FnExactEffectsOf:Holds EE (5,con_laws_FnExactEffectsOf):=by
 refine holds_of EE_ok Go.Proofs.Tryz.func5 con_laws_FnExactEffectsOf (by kernel_rfl) use_laws_FnExactEffectsOf (us_ok _) ann_laws_FnExactEffectsOf (fun x hp hb=> ?_)
 obtain⟨aD,aM⟩:=x
 have hz0:=bd_lDef (x:=aD) (hb _ m0)
 have hl_aD_Name:=hz0.1
 have hl_aD_Rules:=hz0.2
 have hz1:=bd_lMatch (x:=aM) (hb _ m1)
 have hl_aM_Ids:=hz1.1
 have hl_aM_Binds:=hz1.2
 clear hp hb
 rw[vc_laws_FnExactEffectsOf aD aM]
 dsimp only
 refine⟨by omega,if_cond (fun h=>Lf_rfl _) (fun h=> ?_)⟩
 obtain⟨e0,h0⟩:=szr_pos h
 refine⟨by omega,if_cond (fun h=>Lf_rfl _) (fun h=> ?_)⟩
 obtain⟨e1,h1⟩:=szr_pos h
 have hc:=ctDef_le aD
 have hc1:=ctMatch_le aM
 have hc2:=cntEffectS_le (effs aD aM)
 have hc3:=effs_size aD aM
 simp only[markEffectS_idem,markEffectS_ct,if_true]
 repeat' (first|exact Lf_rfl _|refine And.intro (by omega) ?_|refine if_cond (fun h=>absurd h (by first|(simp;done)|(simp;omega))) (fun h=> ?_)|fail)
def h_laws_FnExactEffectsOf:HH:=⟨_,ok_laws_FnExactEffectsOf⟩
end
end AM
