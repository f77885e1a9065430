/- Functions of the program with their contracts: put together by gen/link.py for FnExactEffectsOf. -/
import Derived.Test.YtmoijfaceanakaaGreatAmLib
namespace AM
open Go
set_option linter.unusedVariables false
set_option linter.unusedSimpArgs false
set_option maxRecDepth 100000
noncomputable section
instance:DecidableEq DVal:=fun _ _=>Classical.propDecidable _
instance:DecidableEq DFact:=fun _ _=>Classical.propDecidable _
instance:DecidableEq DItem:=fun _ _=>Classical.propDecidable _
instance:DecidableEq DStore:=fun _ _=>Classical.propDecidable _
instance:DecidableEq DToken:=fun _ _=>Classical.propDecidable _
instance:DecidableEq DArg:=fun _ _=>Classical.propDecidable _
instance:DecidableEq DPat:=fun _ _=>Classical.propDecidable _
instance:DecidableEq DBind:=fun _ _=>Classical.propDecidable _
instance:DecidableEq DCond:=fun _ _=>Classical.propDecidable _
instance:DecidableEq DExpr:=fun _ _=>Classical.propDecidable _
instance:DecidableEq DAct:=fun _ _=>Classical.propDecidable _
instance:DecidableEq DRule:=fun _ _=>Classical.propDecidable _
instance:DecidableEq DDef:=fun _ _=>Classical.propDecidable _
instance:DecidableEq DMatch:=fun _ _=>Classical.propDecidable _
instance:DecidableEq DAlpha:=fun _ _=>Classical.propDecidable _
instance:DecidableEq DChain:=fun _ _=>Classical.propDecidable _
instance:DecidableEq DNet:=fun _ _=>Classical.propDecidable _
instance:DecidableEq DIds:=fun _ _=>Classical.propDecidable _
instance:DecidableEq DTok:=fun _ _=>Classical.propDecidable _
instance:DecidableEq DLevel:=fun _ _=>Classical.propDecidable _
instance:DecidableEq DRow:=fun _ _=>Classical.propDecidable _
instance:DecidableEq DMem:=fun _ _=>Classical.propDecidable _
instance:DecidableEq DEffect:=fun _ _=>Classical.propDecidable _
instance:DecidableEq DTimer:=fun _ _=>Classical.propDecidable _
instance:DecidableEq DTask:=fun _ _=>Classical.propDecidable _
instance:DecidableEq DCall:=fun _ _=>Classical.propDecidable _
instance:DecidableEq DUndo:=fun _ _=>Classical.propDecidable _
instance:DecidableEq DInst:=fun _ _=>Classical.propDecidable _
instance:DecidableEq DRun:=fun _ _=>Classical.propDecidable _
instance:DecidableEq DOp:=fun _ _=>Classical.propDecidable _
instance:DecidableEq DWork:=fun _ _=>Classical.propDecidable _
instance:DecidableEq DBook:=fun _ _=>Classical.propDecidable _
instance:DecidableEq DSent:=fun _ _=>Classical.propDecidable _
def mtl:Nat→Nat→List UInt8→List UInt8
 |0,_,acc=>acc
 |d+1,k,acc=>if k=0 then acc else mtl d (k/10) ((UInt8.ofNat (48+k%10))::acc)
def markText(k:Int):ByteArray:=if k≤0 then⟨#[109,48]⟩ else⟨(109::mtl k.toNat k.toNat []).toArray⟩
def markBool(k:Int):Bool:=decide (k%3=0)
def mkS{α:Type}(f:α→Int→α)(c:α→Nat):List α→Int→List α
 |[],_=>[]
 |x::r,k=>f x k::mkS f c r (k+c x)
def ctS{α:Type}(c:α→Nat)(l:List α):Nat:=(l.map c).sum
theorem mkS_len{α:Type}(f:α→Int→α)(c:α→Nat):∀(l:List α)(k:Int),(mkS f c l k).length=l.length
 |[],_=>rfl
 |x::r,k=>by simp[mkS,mkS_len f c r]
theorem mkS_ct{α:Type}{f:α→Int→α}{c:α→Nat}(h:∀x k,c (f x k)=c x):∀(l:List α)(k:Int),ctS c (mkS f c l k)=ctS c l
 |[],_=>rfl
 |x::r,k=>by have:=mkS_ct h r (k+c x);simp only[ctS,mkS,List.map_cons,List.sum_cons,h] at*;omega
theorem mkS_idem{α:Type}{f:α→Int→α}{c:α→Nat}(h:∀x k,c (f x k)=c x)(h':∀x k,f (f x k) k=f x k):∀(l:List α)(k:Int),mkS f c (mkS f c l k) k=mkS f c l k
 |[],_=>rfl
 |x::r,k=>by simp only[mkS,h,h',mkS_idem h h' r]
theorem ctS_cons{α:Type}(c:α→Nat)(x:α)(l:List α):ctS c (x::l)=c x+ctS c l:=by simp[ctS]
theorem ctS_append{α:Type}(c:α→Nat)(l m:List α):ctS c (l++m)=ctS c l+ctS c m:=by simp[ctS]
theorem ctS_le{α:Type}{c s:α→Nat}(h:∀x,c x≤20*s x+20):∀l:List α,ctS c l≤20*(l.length+(l.map s).sum)
 |[]=>Nat.le_refl _
 |x::r=>by have:=ctS_le h r;have:=h x;simp only[ctS,List.map_cons,List.sum_cons,List.length_cons] at*;omega
theorem ctS_take{α:Type}(c:α→Nat)(l:List α)(z:α){i:Int}(h0:0≤i)(h:i<l.length):ctS c (l.take (i+1).toNat)=ctS c (l.take i.toNat)+c (List.getD l i.toNat z):=by
 have hn:i.toNat<l.length:=by omega
 have e:(i+1).toNat=i.toNat+1:=by omega
 rw[e,List.take_succ_eq_append_getElem hn,ctS_append,List.getD_eq_getElem?_getD,List.getElem?_eq_getElem hn]
 simp[ctS]
theorem ctS_take_le{α:Type}(c:α→Nat)(l:List α)(n:Nat):ctS c (l.take n)≤ctS c l:=by
 have h:=ctS_append c (l.take n) (l.drop n)
 rw[List.take_append_drop] at h
 omega
theorem mkS_append{α:Type}(f:α→Int→α)(c:α→Nat):∀(l m:List α)(k:Int),mkS f c (l++m) k=mkS f c l k++mkS f c m (k+ctS c l)
 |[],m,k=>by simp[mkS,ctS]
 |x::r,m,k=>by simp only[List.cons_append,mkS,mkS_append f c r m,ctS_cons];congr 3;omega
theorem mkS_step{α:Type}(f:α→Int→α)(c:α→Nat)(l:List α)(z:α)(k:Int){i:Int}(h0:0≤i)(h:i<l.length):
  ((mkS f c l k).take i.toNat++l.drop i.toNat).set i.toNat (f (List.getD l i.toNat z) (k+ctS c (l.take i.toNat)))=(mkS f c l k).take (i+1).toNat++l.drop (i+1).toNat:=by
 have hn:i.toNat<l.length:=by omega
 have e:(i+1).toNat=i.toNat+1:=by omega
 have hl:((mkS f c l k).take i.toNat).length=i.toNat:=by rw[List.length_take,mkS_len];omega
 have hm:(mkS f c l k)[i.toNat]? =some (f (List.getD l i.toNat z) (k+ctS c (l.take i.toNat))):=by
  have h1:l=l.take i.toNat++List.getD l i.toNat z::l.drop (i+1).toNat:=by rw[←drop_step l z h0 h,List.take_append_drop]
  have h2:=congrArg (fun q=>(mkS f c q k)[i.toNat]?) h1
  simp only[mkS_append,mkS] at h2
  rw[h2,List.getElem?_append_right (by rw[mkS_len,List.length_take];omega),mkS_len]
  have:i.toNat-(l.take i.toNat).length=0:=by simp;omega
  rw[this];rfl
 have hm':i.toNat<(mkS f c l k).length:=by rw[mkS_len];exact hn
 rw[List.getElem?_eq_getElem hm',Option.some.injEq] at hm
 rw[drop_step l z h0 h,List.set_append_right _ _ (by rw[hl];exact Nat.le_refl _),hl,Nat.sub_self,List.set_cons_zero,e,List.take_succ_eq_append_getElem hm',hm,List.append_assoc]
 rfl
theorem mk_getD{α:Type}(p:List α)(l:List α)(z:α){i:Int}(hp:p.length=i.toNat)(h0:0≤i)(h:i<l.length):List.getD (p++l.drop i.toNat) i.toNat z=List.getD l i.toNat z:=by
 rw[List.getD_eq_getElem?_getD,List.getD_eq_getElem?_getD,List.getElem?_append_right (by omega),hp,Nat.sub_self,List.getElem?_drop,Nat.add_zero]
theorem sum_getD_le{α:Type}(f:α→Nat)(l:List α)(z:α){i:Int}(h0:0≤i)(h:i<l.length):f (List.getD l i.toNat z)≤(l.map f).sum:=by
 have h1:l=l.take i.toNat++List.getD l i.toNat z::l.drop (i+1).toNat:=by rw[←drop_step l z h0 h,List.take_append_drop]
 have h2:=congrArg (fun q=>(q.map f).sum) h1
 simp only[List.map_append,List.map_cons,List.sum_append,List.sum_cons] at h2
 omega
theorem getD_modify{α:Type}(l:List α)(z:α)(f:α→α)(i:Nat)(h:i<l.length):List.getD (l.modify i f) i z=f (List.getD l i z):=by
 rw[List.getD_eq_getElem?_getD,List.getD_eq_getElem?_getD,List.getElem?_modify,List.getElem?_eq_getElem h];simp
theorem modify_modify{α:Type}(l:List α)(f g:α→α)(i:Nat):(l.modify i f).modify i g=l.modify i (fun x=>g (f x)):=List.modify_modify_eq f g i l
theorem modify_set{α:Type}(l:List α)(z:α)(f:α→α)(i:Nat):l.modify i f=l.set i (f (List.getD l i z)):=by
 refine List.ext_getElem? fun j=> ?_
 rw[List.getElem?_modify,List.getElem?_set]
 by_cases hj:i=j
 ·subst hj
  rw[if_pos rfl]
  by_cases hi:i<l.length
  ·rw[if_pos hi,List.getElem?_eq_getElem hi,List.getD_eq_getElem?_getD,List.getElem?_eq_getElem hi];simp
  ·rw[if_neg hi,List.getElem?_eq_none (by omega)];rfl
 ·rw[if_neg hj];simp[hj]
theorem mk_tl{α:Type}(f:α→Int→α)(c:α→Nat)(l:List α)(k:Int){i:Int}(h0:0≤i)(h:i≤l.length):((mkS f c l k).take i.toNat).length=i.toNat:=by rw[List.length_take,mkS_len];omega
theorem mk_rl{α:Type}(f:α→Int→α)(c:α→Nat)(l:List α)(k:Int){i:Int}(h0:0≤i)(h:i≤l.length):((mkS f c l k).take i.toNat++l.drop i.toNat).length=l.length:=by rw[List.length_append,mk_tl f c l k h0 h,List.length_drop];omega
theorem mkS_mod{α:Type}(f:α→Int→α)(c:α→Nat)(l:List α)(z:α)(k:Int){i:Int}(F:α→α)(h0:0≤i)(h:i<l.length)(hF:F (List.getD l i.toNat z)=f (List.getD l i.toNat z) (k+ctS c (l.take i.toNat))):
  ((mkS f c l k).take i.toNat++l.drop i.toNat).modify i.toNat F=(mkS f c l k).take (i+1).toNat++l.drop (i+1).toNat:=by
 rw[modify_set _ z,mk_getD _ l z (mk_tl f c l k h0 (by omega)) h0 h,hF]
 exact mkS_step f c l z k h0 h
theorem mk_done{α:Type}(f:α→Int→α)(c:α→Nat)(l:List α)(k:Int){i:Int}(h:l.length≤i):(mkS f c l k).take i.toNat++l.drop i.toNat=mkS f c l k:=by
 rw[List.drop_eq_nil_of_le (by omega),List.append_nil,List.take_of_length_le (by rw[mkS_len];omega)]
theorem ct_done{α:Type}(c:α→Nat)(l:List α){i:Int}(h:l.length≤i):ctS c (l.take i.toNat)=ctS c l:=by rw[List.take_of_length_le (by omega)]
theorem Lf_no{p:Prop}[Decidable p]{n:Int}(h:¬p):Lf [.one (.lit (.int .i64 (-1)))] [.one (.lit (.int .i64 (if p then n else-1)))]:=by rw[if_neg h];exact Lf_rfl _
theorem Lf_yes{p:Prop}[Decidable p]{m n:Int}(h:p)(e:m=n):Lf [.one (.lit (.int .i64 m))] [.one (.lit (.int .i64 (if p then n else-1)))]:=by rw[if_pos h,e];exact Lf_rfl _
theorem bne_int{a b:Int}:(a !=b)= !decide (a=b):=by by_cases h:a=b<;>simp[h,bne]
theorem mtl_zero(d:Nat)(acc:List UInt8):mtl d 0 acc=acc:=by cases d<;>simp[mtl]
theorem all_step{α:Type}(p:α→Bool)(l:List α)(z:α){i:Int}(h0:0≤i)(h:i<l.length):(l.drop i.toNat).all p=(p (List.getD l i.toNat z)&&(l.drop (i+1).toNat).all p):=by
 rw[drop_step l z h0 h,List.all_cons]
def bs(s:ByteArray):List UInt8:=s.data.toList
theorem bs_len(s:ByteArray):(bs s).length=s.size:=Array.length_toList
theorem bs_eq(s:ByteArray):Array.toList (ByteArray.data s)=bs s:=rfl
def byteP(p:Int→Bool)(b:UInt8):Bool:=p b.toNat
theorem u8_i64(b:UInt8):IntKind.wrap .i64 (b.toNat:Int)=b.toNat:=wrap_i64 (by omega) (by have:=b.toNat_lt;omega)
theorem Lf_tt{y:Bool}(h:y=true):Lf [.one (.lit (.bool true))] [.one (.lit (.bool y))]:=Lf_b h.symm
theorem Lf_ff{y:Bool}(h:y=false):Lf [.one (.lit (.bool false))] [.one (.lit (.bool y))]:=Lf_b h.symm
theorem take_step{α:Type}(l:List α)(z:α){i:Int}(h0:0≤i)(h:i<l.length):l.take i.toNat++[List.getD l i.toNat z]=l.take (i+1).toNat:=by
 have hn:i.toNat<l.length:=by omega
 have e:(i+1).toNat=i.toNat+1:=by omega
 rw[e,List.take_succ_eq_append_getElem hn,List.getD_eq_getElem?_getD,List.getElem?_eq_getElem hn]
 rfl
theorem take_all{α:Type}(l:List α){i:Int}(h:l.length≤i):l.take i.toNat=l:=List.take_of_length_le (by omega)
theorem szr_neg{a:Int}{n:Nat}(h:decide (szr a n<0)=true):a<n:=by
 have h:=of_decide_eq_true h
 unfold szr at h;split at h<;>omega
theorem szr_pos{a:Int}{n:Nat}(h:decide (szr a n<0)=false):szr a n=a-n∧(n:Int)≤a:=by
 have h:=of_decide_eq_false h
 unfold szr at h⊢;split at h
 ·rename_i g;rw[if_pos g];exact⟨rfl,g⟩
 ·omega
theorem szr_bad'{a:Int}{n:Nat}(h:a<n): -1=szr a n:=by simp only[szr];rw[if_neg (by omega)]
theorem szr_ok'{a:Int}{n:Nat}(h:(n:Int)≤a):a-n=szr a n:=by simp only[szr];rw[if_pos h]
def sizeIntS(l:List Int):Nat:=l.length
def markIntS:List Int→Int→List Int:=mkS (fun _ k=>k) (fun _=>1)
def cntIntS(l:List Int):Nat:=ctS (fun _=>1) l
theorem ctS_one{α:Type}:∀l:List α,ctS (fun _=>1) l=l.length
 |[]=>rfl
 |x::r=>by rw[ctS_cons,ctS_one r,List.length_cons];omega
theorem cntIntS_le(l:List Int):cntIntS l≤20*sizeIntS l:=by simp only[cntIntS,sizeIntS,ctS_one];omega
def sizeVal(a:DVal):Nat:=a.S.size
def sizeValS(l:List DVal):Nat:=l.length+(l.map sizeVal).sum
def markVal(a:DVal)(k:Int):DVal:=⟨k,(k+1),markText (k+1+1)⟩
def cntVal(a:DVal):Nat:=1+1+1
def markValS:List DVal→Int→List DVal:=mkS markVal cntVal
def cntValS(l:List DVal):Nat:=ctS cntVal l
theorem markVal_ct(a:DVal)(k:Int):cntVal (markVal a k)=cntVal a:=by simp only[cntVal,markVal]
theorem markVal_idem(a:DVal)(k:Int):markVal (markVal a k) k=markVal a k:=by simp only[markVal]
theorem cntVal_le(a:DVal):cntVal a≤20*sizeVal a+20:=by simp only[cntVal,sizeVal];omega
theorem markValS_ct(l:List DVal)(k:Int):cntValS (markValS l k)=cntValS l:=mkS_ct markVal_ct l k
theorem markValS_idem(l:List DVal)(k:Int):markValS (markValS l k) k=markValS l k:=mkS_idem markVal_ct markVal_idem l k
theorem cntValS_le(l:List DVal):cntValS l≤20*sizeValS l:=ctS_le cntVal_le l
def sizeFact(a:DFact):Nat:=a.Kind.size+sizeValS a.Fields
def sizeArg(a:DArg):Nat:=a.S.size+sizeVal a.V
def sizeArgS(l:List DArg):Nat:=l.length+(l.map sizeArg).sum
def markArg(a:DArg)(k:Int):DArg:=⟨k,markText (k+1),⟨(k+1+1),(k+1+1+1),markText (k+1+1+1+1)⟩⟩
def cntArg(a:DArg):Nat:=1+1+1+1+1
def markArgS:List DArg→Int→List DArg:=mkS markArg cntArg
def cntArgS(l:List DArg):Nat:=ctS cntArg l
theorem cntArg_le(a:DArg):cntArg a≤20*sizeArg a+20:=by simp only[cntArg,sizeArg,sizeVal];omega
theorem cntArgS_le(l:List DArg):cntArgS l≤20*sizeArgS l:=ctS_le cntArg_le l
def sizePat(a:DPat):Nat:=a.Kind.size+sizeArgS a.Args
def sizePatS(l:List DPat):Nat:=l.length+(l.map sizePat).sum
def markPat(a:DPat)(k:Int):DPat:=⟨markText k,markArgS a.Args (k+1),markBool (k+1+cntArgS a.Args)⟩
def cntPat(a:DPat):Nat:=1+cntArgS a.Args+1
def markPatS:List DPat→Int→List DPat:=mkS markPat cntPat
def cntPatS(l:List DPat):Nat:=ctS cntPat l
theorem cntPat_le(a:DPat):cntPat a≤20*sizePat a+20:=by have:=cntArgS_le a.Args;simp only[cntPat,sizePat];omega
theorem cntPatS_le(l:List DPat):cntPatS l≤20*sizePatS l:=ctS_le cntPat_le l
def sizeBind(a:DBind):Nat:=a.Name.size+sizeVal a.V
def sizeBindS(l:List DBind):Nat:=l.length+(l.map sizeBind).sum
def markBind(a:DBind)(k:Int):DBind:=⟨markText k,⟨(k+1),(k+1+1),markText (k+1+1+1)⟩⟩
def cntBind(a:DBind):Nat:=1+1+1+1
def markBindS:List DBind→Int→List DBind:=mkS markBind cntBind
def cntBindS(l:List DBind):Nat:=ctS cntBind l
theorem cntBind_le(a:DBind):cntBind a≤20*sizeBind a+20:=by simp only[cntBind,sizeBind,sizeVal];omega
theorem cntBindS_le(l:List DBind):cntBindS l≤20*sizeBindS l:=ctS_le cntBind_le l
def sizeCond(a:DCond):Nat:=sizeArg a.L+sizeArg a.R
def sizeCondS(l:List DCond):Nat:=l.length+(l.map sizeCond).sum
def markCond(a:DCond)(k:Int):DCond:=⟨k,⟨(k+1),markText (k+1+1),⟨(k+1+1+1),(k+1+1+1+1),markText (k+1+1+1+1+1)⟩⟩,⟨(k+1+1+1+1+1+1),markText (k+1+1+1+1+1+1+1),⟨(k+1+1+1+1+1+1+1+1),(k+1+1+1+1+1+1+1+1+1),markText (k+1+1+1+1+1+1+1+1+1+1)⟩⟩⟩
def cntCond(a:DCond):Nat:=1+1+1+1+1+1+1+1+1+1+1
def markCondS:List DCond→Int→List DCond:=mkS markCond cntCond
def cntCondS(l:List DCond):Nat:=ctS cntCond l
theorem cntCond_le(a:DCond):cntCond a≤20*sizeCond a+20:=by simp only[cntCond,sizeArg,sizeCond,sizeVal];omega
theorem cntCondS_le(l:List DCond):cntCondS l≤20*sizeCondS l:=ctS_le cntCond_le l
def sizeExpr(a:DExpr):Nat:=a.Op.size+sizeArg a.L+sizeArg a.R
def sizeExprS(l:List DExpr):Nat:=l.length+(l.map sizeExpr).sum
def markExpr(a:DExpr)(k:Int):DExpr:=⟨markText k,⟨(k+1),markText (k+1+1),⟨(k+1+1+1),(k+1+1+1+1),markText (k+1+1+1+1+1)⟩⟩,⟨(k+1+1+1+1+1+1),markText (k+1+1+1+1+1+1+1),⟨(k+1+1+1+1+1+1+1+1),(k+1+1+1+1+1+1+1+1+1),markText (k+1+1+1+1+1+1+1+1+1+1)⟩⟩⟩
def cntExpr(a:DExpr):Nat:=1+1+1+1+1+1+1+1+1+1+1
def markExprS:List DExpr→Int→List DExpr:=mkS markExpr cntExpr
def cntExprS(l:List DExpr):Nat:=ctS cntExpr l
theorem cntExpr_le(a:DExpr):cntExpr a≤20*sizeExpr a+20:=by simp only[cntExpr,sizeArg,sizeExpr,sizeVal];omega
theorem cntExprS_le(l:List DExpr):cntExprS l≤20*sizeExprS l:=ctS_le cntExpr_le l
def sizeAct(a:DAct):Nat:=a.Name.size+sizeExprS a.Args+a.Undo.size
def sizeActS(l:List DAct):Nat:=l.length+(l.map sizeAct).sum
def markAct(a:DAct)(k:Int):DAct:=⟨k,markText (k+1),markExprS a.Args (k+1+1),(k+1+1+cntExprS a.Args),markText (k+1+1+cntExprS a.Args+1)⟩
def cntAct(a:DAct):Nat:=1+1+cntExprS a.Args+1+1
def markActS:List DAct→Int→List DAct:=mkS markAct cntAct
def cntActS(l:List DAct):Nat:=ctS cntAct l
theorem cntAct_le(a:DAct):cntAct a≤20*sizeAct a+20:=by have:=cntExprS_le a.Args;simp only[cntAct,sizeAct];omega
theorem cntActS_le(l:List DAct):cntActS l≤20*sizeActS l:=ctS_le cntAct_le l
def sizeRule(a:DRule):Nat:=a.Name.size+sizePatS a.Pats+sizeCondS a.Conds+sizeActS a.Acts
def sizeRuleS(l:List DRule):Nat:=l.length+(l.map sizeRule).sum
def markRule(a:DRule)(k:Int):DRule:=⟨markText k,(k+1),markPatS a.Pats (k+1+1),markCondS a.Conds (k+1+1+cntPatS a.Pats),markActS a.Acts (k+1+1+cntPatS a.Pats+cntCondS a.Conds)⟩
def cntRule(a:DRule):Nat:=1+1+cntPatS a.Pats+cntCondS a.Conds+cntActS a.Acts
def markRuleS:List DRule→Int→List DRule:=mkS markRule cntRule
def cntRuleS(l:List DRule):Nat:=ctS cntRule l
theorem cntRule_le(a:DRule):cntRule a≤20*sizeRule a+20:=by have:=cntPatS_le a.Pats;have:=cntCondS_le a.Conds;have:=cntActS_le a.Acts;simp only[cntRule,sizeRule];omega
theorem cntRuleS_le(l:List DRule):cntRuleS l≤20*sizeRuleS l:=ctS_le cntRule_le l
def sizeDef(a:DDef):Nat:=a.Name.size+sizeRuleS a.Rules
def mkDef(a:DDef)(k:Int):DDef:=⟨a.Name,markRuleS a.Rules k⟩
def ctDef(a:DDef):Nat:=cntRuleS a.Rules
theorem ctDef_le(a:DDef):ctDef a≤20*sizeDef a:=by have:=cntRuleS_le a.Rules;simp only[ctDef,sizeDef];omega
def sizeMatch(a:DMatch):Nat:=sizeIntS a.Ids+sizeBindS a.Binds
def mkMatch(a:DMatch)(k:Int):DMatch:=⟨a.Rule,markIntS a.Ids k,markBindS a.Binds (k+cntIntS a.Ids)⟩
def ctMatch(a:DMatch):Nat:=cntIntS a.Ids+cntBindS a.Binds
theorem ctMatch_le(a:DMatch):ctMatch a≤20*sizeMatch a:=by have:=cntIntS_le a.Ids;have:=cntBindS_le a.Binds;simp only[ctMatch,sizeMatch];omega
def sizeEffect(a:DEffect):Nat:=sizeFact a.F+a.Undo.size
def sizeEffectS(l:List DEffect):Nat:=l.length+(l.map sizeEffect).sum
def markEffect(a:DEffect)(k:Int):DEffect:=⟨k,⟨markText (k+1),markValS a.F.Fields (k+1+1)⟩,(k+1+1+cntValS a.F.Fields),(k+1+1+cntValS a.F.Fields+1),markText (k+1+1+cntValS a.F.Fields+1+1)⟩
def cntEffect(a:DEffect):Nat:=1+1+cntValS a.F.Fields+1+1+1
def markEffectS:List DEffect→Int→List DEffect:=mkS markEffect cntEffect
def cntEffectS(l:List DEffect):Nat:=ctS cntEffect l
theorem markEffect_ct(a:DEffect)(k:Int):cntEffect (markEffect a k)=cntEffect a:=by simp only[cntEffect,markEffect,markValS_ct]
theorem markEffect_idem(a:DEffect)(k:Int):markEffect (markEffect a k) k=markEffect a k:=by simp only[markEffect,markValS_ct,markValS_idem]
theorem cntEffect_le(a:DEffect):cntEffect a≤20*sizeEffect a+20:=by have:=cntValS_le a.F.Fields;simp only[cntEffect,sizeEffect,sizeFact];omega
theorem markEffectS_ct(l:List DEffect)(k:Int):cntEffectS (markEffectS l k)=cntEffectS l:=mkS_ct markEffect_ct l k
theorem markEffectS_idem(l:List DEffect)(k:Int):markEffectS (markEffectS l k) k=markEffectS l k:=mkS_idem markEffect_ct markEffect_idem l k
theorem cntEffectS_le(l:List DEffect):cntEffectS l≤20*sizeEffectS l:=ctS_le cntEffect_le l
theorem bd_eVal{x:DVal}(h:BdDV (dA .eVal x)):x.S.size≤9223372036854775807:=Bd.str (U:=UU) (h _ (List.mem_cons_of_mem _ (List.mem_cons_of_mem _ (List.mem_cons_self))))
theorem bd_lVal{x:DVal}(h:BdDV (dA .lVal x)):x.S.size≤9223372036854775807:=Bd.str (U:=UU) (h _ (List.mem_cons_of_mem _ (List.mem_cons_of_mem _ (List.mem_cons_self))))
theorem bd_eFact{x:DFact}(h:BdDV (dA .eFact x)):x.Kind.size≤9223372036854775807∧x.Fields.length≤9223372036854775807:=⟨Bd.str (U:=UU) (h _ (List.mem_cons_self)),Bd.len (U:=UU) (h _ (List.mem_cons_of_mem _ (List.mem_cons_self)))⟩
theorem bd_eArg{x:DArg}(h:BdDV (dA .eArg x)):x.S.size≤9223372036854775807∧x.V.S.size≤9223372036854775807:=⟨Bd.str (U:=UU) (h _ (List.mem_cons_of_mem _ (List.mem_cons_self))),Bd.str (U:=UU) (h _ (List.mem_cons_of_mem _ (List.mem_cons_of_mem _ (List.mem_cons_of_mem _ (List.mem_cons_of_mem _ (List.mem_cons_self))))))⟩
theorem bd_lArg{x:DArg}(h:BdDV (dA .lArg x)):x.S.size≤9223372036854775807∧x.V.S.size≤9223372036854775807:=⟨Bd.str (U:=UU) (h _ (List.mem_cons_of_mem _ (List.mem_cons_self))),Bd.str (U:=UU) (h _ (List.mem_cons_of_mem _ (List.mem_cons_of_mem _ (List.mem_cons_of_mem _ (List.mem_cons_of_mem _ (List.mem_cons_self))))))⟩
theorem bd_ePat{x:DPat}(h:BdDV (dA .ePat x)):x.Kind.size≤9223372036854775807∧x.Args.length≤9223372036854775807:=⟨Bd.str (U:=UU) (h _ (List.mem_cons_self)),Bd.len (U:=UU) (h _ (List.mem_cons_of_mem _ (List.mem_cons_self)))⟩
theorem bd_lPat{x:DPat}(h:BdDV (dA .lPat x)):x.Kind.size≤9223372036854775807∧x.Args.length≤9223372036854775807:=⟨Bd.str (U:=UU) (h _ (List.mem_cons_self)),Bd.len (U:=UU) (h _ (List.mem_cons_of_mem _ (List.mem_cons_self)))⟩
theorem bd_eBind{x:DBind}(h:BdDV (dA .eBind x)):x.Name.size≤9223372036854775807∧x.V.S.size≤9223372036854775807:=⟨Bd.str (U:=UU) (h _ (List.mem_cons_self)),Bd.str (U:=UU) (h _ (List.mem_cons_of_mem _ (List.mem_cons_of_mem _ (List.mem_cons_of_mem _ (List.mem_cons_self)))))⟩
theorem bd_lBind{x:DBind}(h:BdDV (dA .lBind x)):x.Name.size≤9223372036854775807∧x.V.S.size≤9223372036854775807:=⟨Bd.str (U:=UU) (h _ (List.mem_cons_self)),Bd.str (U:=UU) (h _ (List.mem_cons_of_mem _ (List.mem_cons_of_mem _ (List.mem_cons_of_mem _ (List.mem_cons_self)))))⟩
theorem bd_eCond{x:DCond}(h:BdDV (dA .eCond x)):x.L.S.size≤9223372036854775807∧x.L.V.S.size≤9223372036854775807∧x.R.S.size≤9223372036854775807∧x.R.V.S.size≤9223372036854775807:=⟨Bd.str (U:=UU) (h _ (List.mem_cons_of_mem _ (List.mem_cons_of_mem _ (List.mem_cons_self)))),Bd.str (U:=UU) (h _ (List.mem_cons_of_mem _ (List.mem_cons_of_mem _ (List.mem_cons_of_mem _ (List.mem_cons_of_mem _ (List.mem_cons_of_mem _ (List.mem_cons_self))))))),Bd.str (U:=UU) (h _ (List.mem_cons_of_mem _ (List.mem_cons_of_mem _ (List.mem_cons_of_mem _ (List.mem_cons_of_mem _ (List.mem_cons_of_mem _ (List.mem_cons_of_mem _ (List.mem_cons_of_mem _ (List.mem_cons_self))))))))),Bd.str (U:=UU) (h _ (List.mem_cons_of_mem _ (List.mem_cons_of_mem _ (List.mem_cons_of_mem _ (List.mem_cons_of_mem _ (List.mem_cons_of_mem _ (List.mem_cons_of_mem _ (List.mem_cons_of_mem _ (List.mem_cons_of_mem _ (List.mem_cons_of_mem _ (List.mem_cons_of_mem _ (List.mem_cons_self))))))))))))⟩
theorem bd_lCond{x:DCond}(h:BdDV (dA .lCond x)):x.L.S.size≤9223372036854775807∧x.L.V.S.size≤9223372036854775807∧x.R.S.size≤9223372036854775807∧x.R.V.S.size≤9223372036854775807:=⟨Bd.str (U:=UU) (h _ (List.mem_cons_of_mem _ (List.mem_cons_of_mem _ (List.mem_cons_self)))),Bd.str (U:=UU) (h _ (List.mem_cons_of_mem _ (List.mem_cons_of_mem _ (List.mem_cons_of_mem _ (List.mem_cons_of_mem _ (List.mem_cons_of_mem _ (List.mem_cons_self))))))),Bd.str (U:=UU) (h _ (List.mem_cons_of_mem _ (List.mem_cons_of_mem _ (List.mem_cons_of_mem _ (List.mem_cons_of_mem _ (List.mem_cons_of_mem _ (List.mem_cons_of_mem _ (List.mem_cons_of_mem _ (List.mem_cons_self))))))))),Bd.str (U:=UU) (h _ (List.mem_cons_of_mem _ (List.mem_cons_of_mem _ (List.mem_cons_of_mem _ (List.mem_cons_of_mem _ (List.mem_cons_of_mem _ (List.mem_cons_of_mem _ (List.mem_cons_of_mem _ (List.mem_cons_of_mem _ (List.mem_cons_of_mem _ (List.mem_cons_of_mem _ (List.mem_cons_self))))))))))))⟩
theorem bd_eExpr{x:DExpr}(h:BdDV (dA .eExpr x)):x.Op.size≤9223372036854775807∧x.L.S.size≤9223372036854775807∧x.L.V.S.size≤9223372036854775807∧x.R.S.size≤9223372036854775807∧x.R.V.S.size≤9223372036854775807:=⟨Bd.str (U:=UU) (h _ (List.mem_cons_self)),Bd.str (U:=UU) (h _ (List.mem_cons_of_mem _ (List.mem_cons_of_mem _ (List.mem_cons_self)))),Bd.str (U:=UU) (h _ (List.mem_cons_of_mem _ (List.mem_cons_of_mem _ (List.mem_cons_of_mem _ (List.mem_cons_of_mem _ (List.mem_cons_of_mem _ (List.mem_cons_self))))))),Bd.str (U:=UU) (h _ (List.mem_cons_of_mem _ (List.mem_cons_of_mem _ (List.mem_cons_of_mem _ (List.mem_cons_of_mem _ (List.mem_cons_of_mem _ (List.mem_cons_of_mem _ (List.mem_cons_of_mem _ (List.mem_cons_self))))))))),Bd.str (U:=UU) (h _ (List.mem_cons_of_mem _ (List.mem_cons_of_mem _ (List.mem_cons_of_mem _ (List.mem_cons_of_mem _ (List.mem_cons_of_mem _ (List.mem_cons_of_mem _ (List.mem_cons_of_mem _ (List.mem_cons_of_mem _ (List.mem_cons_of_mem _ (List.mem_cons_of_mem _ (List.mem_cons_self))))))))))))⟩
theorem bd_lExpr{x:DExpr}(h:BdDV (dA .lExpr x)):x.Op.size≤9223372036854775807∧x.L.S.size≤9223372036854775807∧x.L.V.S.size≤9223372036854775807∧x.R.S.size≤9223372036854775807∧x.R.V.S.size≤9223372036854775807:=⟨Bd.str (U:=UU) (h _ (List.mem_cons_self)),Bd.str (U:=UU) (h _ (List.mem_cons_of_mem _ (List.mem_cons_of_mem _ (List.mem_cons_self)))),Bd.str (U:=UU) (h _ (List.mem_cons_of_mem _ (List.mem_cons_of_mem _ (List.mem_cons_of_mem _ (List.mem_cons_of_mem _ (List.mem_cons_of_mem _ (List.mem_cons_self))))))),Bd.str (U:=UU) (h _ (List.mem_cons_of_mem _ (List.mem_cons_of_mem _ (List.mem_cons_of_mem _ (List.mem_cons_of_mem _ (List.mem_cons_of_mem _ (List.mem_cons_of_mem _ (List.mem_cons_of_mem _ (List.mem_cons_self))))))))),Bd.str (U:=UU) (h _ (List.mem_cons_of_mem _ (List.mem_cons_of_mem _ (List.mem_cons_of_mem _ (List.mem_cons_of_mem _ (List.mem_cons_of_mem _ (List.mem_cons_of_mem _ (List.mem_cons_of_mem _ (List.mem_cons_of_mem _ (List.mem_cons_of_mem _ (List.mem_cons_of_mem _ (List.mem_cons_self))))))))))))⟩
theorem bd_eAct{x:DAct}(h:BdDV (dA .eAct x)):x.Name.size≤9223372036854775807∧x.Args.length≤9223372036854775807∧x.Undo.size≤9223372036854775807:=⟨Bd.str (U:=UU) (h _ (List.mem_cons_of_mem _ (List.mem_cons_self))),Bd.len (U:=UU) (h _ (List.mem_cons_of_mem _ (List.mem_cons_of_mem _ (List.mem_cons_self)))),Bd.str (U:=UU) (h _ (List.mem_cons_of_mem _ (List.mem_cons_of_mem _ (List.mem_cons_of_mem _ (List.mem_cons_of_mem _ (List.mem_cons_self))))))⟩
theorem bd_lAct{x:DAct}(h:BdDV (dA .lAct x)):x.Name.size≤9223372036854775807∧x.Args.length≤9223372036854775807∧x.Undo.size≤9223372036854775807:=⟨Bd.str (U:=UU) (h _ (List.mem_cons_of_mem _ (List.mem_cons_self))),Bd.len (U:=UU) (h _ (List.mem_cons_of_mem _ (List.mem_cons_of_mem _ (List.mem_cons_self)))),Bd.str (U:=UU) (h _ (List.mem_cons_of_mem _ (List.mem_cons_of_mem _ (List.mem_cons_of_mem _ (List.mem_cons_of_mem _ (List.mem_cons_self))))))⟩
theorem bd_eRule{x:DRule}(h:BdDV (dA .eRule x)):x.Name.size≤9223372036854775807∧x.Pats.length≤9223372036854775807∧x.Conds.length≤9223372036854775807∧x.Acts.length≤9223372036854775807:=⟨Bd.str (U:=UU) (h _ (List.mem_cons_self)),Bd.len (U:=UU) (h _ (List.mem_cons_of_mem _ (List.mem_cons_of_mem _ (List.mem_cons_self)))),Bd.len (U:=UU) (h _ (List.mem_cons_of_mem _ (List.mem_cons_of_mem _ (List.mem_cons_of_mem _ (List.mem_cons_self))))),Bd.len (U:=UU) (h _ (List.mem_cons_of_mem _ (List.mem_cons_of_mem _ (List.mem_cons_of_mem _ (List.mem_cons_of_mem _ (List.mem_cons_self))))))⟩
theorem bd_lRule{x:DRule}(h:BdDV (dA .lRule x)):x.Name.size≤9223372036854775807∧x.Pats.length≤9223372036854775807∧x.Conds.length≤9223372036854775807∧x.Acts.length≤9223372036854775807:=⟨Bd.str (U:=UU) (h _ (List.mem_cons_self)),Bd.len (U:=UU) (h _ (List.mem_cons_of_mem _ (List.mem_cons_of_mem _ (List.mem_cons_self)))),Bd.len (U:=UU) (h _ (List.mem_cons_of_mem _ (List.mem_cons_of_mem _ (List.mem_cons_of_mem _ (List.mem_cons_self))))),Bd.len (U:=UU) (h _ (List.mem_cons_of_mem _ (List.mem_cons_of_mem _ (List.mem_cons_of_mem _ (List.mem_cons_of_mem _ (List.mem_cons_self))))))⟩
theorem bd_eDef{x:DDef}(h:BdDV (dA .eDef x)):x.Name.size≤9223372036854775807∧x.Rules.length≤9223372036854775807:=⟨Bd.str (U:=UU) (h _ (List.mem_cons_self)),Bd.len (U:=UU) (h _ (List.mem_cons_of_mem _ (List.mem_cons_self)))⟩
theorem bd_lDef{x:DDef}(h:BdDV (dA .lDef x)):x.Name.size≤9223372036854775807∧x.Rules.length≤9223372036854775807:=⟨Bd.str (U:=UU) (h _ (List.mem_cons_self)),Bd.len (U:=UU) (h _ (List.mem_cons_of_mem _ (List.mem_cons_self)))⟩
theorem bd_eMatch{x:DMatch}(h:BdDV (dA .eMatch x)):x.Ids.length≤9223372036854775807∧x.Binds.length≤9223372036854775807:=⟨Bd.len (U:=UU) (h _ (List.mem_cons_of_mem _ (List.mem_cons_self))),Bd.len (U:=UU) (h _ (List.mem_cons_of_mem _ (List.mem_cons_of_mem _ (List.mem_cons_self))))⟩
theorem bd_lMatch{x:DMatch}(h:BdDV (dA .lMatch x)):x.Ids.length≤9223372036854775807∧x.Binds.length≤9223372036854775807:=⟨Bd.len (U:=UU) (h _ (List.mem_cons_of_mem _ (List.mem_cons_self))),Bd.len (U:=UU) (h _ (List.mem_cons_of_mem _ (List.mem_cons_of_mem _ (List.mem_cons_self))))⟩
theorem bd_eEffect{x:DEffect}(h:BdDV (dA .eEffect x)):x.F.Kind.size≤9223372036854775807∧x.F.Fields.length≤9223372036854775807∧x.Undo.size≤9223372036854775807:=⟨Bd.str (U:=UU) (h _ (List.mem_cons_of_mem _ (List.mem_cons_self))),Bd.len (U:=UU) (h _ (List.mem_cons_of_mem _ (List.mem_cons_of_mem _ (List.mem_cons_self)))),Bd.str (U:=UU) (h _ (List.mem_cons_of_mem _ (List.mem_cons_of_mem _ (List.mem_cons_of_mem _ (List.mem_cons_of_mem _ (List.mem_cons_of_mem _ (List.mem_cons_self)))))))⟩
def rM1{α:Type}(a:List α):Int×Unit→Nat:=fun y=>a.length-y.1.toNat
def rM2{α β:Type}(a:List α):β×Int×Unit→Nat:=fun y=>a.length-y.2.1.toNat
def szI{α:Type}(f:α→Nat)(a:List α)(S:Nat)(left:Int):Int×Int×Unit→Prop:=fun y=>0≤y.1∧0≤y.2.1∧y.2.1≤a.length∧szr y.1 ((a.drop y.2.1.toNat).map f).sum=szr left S
def szV{α:Type}(f:α→Nat)(z:α)(a:List α)(S:Nat)(left:Int):Prop:=
 bif decide (IntKind.wrap .i64 (left-(a.length:Int))<0) then Li (-1) (szr left S)
 else szI f a S left (IntKind.wrap .i64 (left-(a.length:Int)),0,())∧∀y:Int×Int×PUnit,szI f a S left y→
  bif decide (y.2.1<(a.length:Int)) then 0≤y.2.1∧y.2.1.toNat<a.length∧0≤y.1∧
   bif decide (szr y.1 (f (a.getD y.2.1.toNat z))<0) then Li (-1) (szr left S)
   else szI f a S left (szr y.1 (f (a.getD y.2.1.toNat z)),IntKind.wrap .i64 (y.2.1+1),())∧rM2 a (szr y.1 (f (a.getD y.2.1.toNat z)),IntKind.wrap .i64 (y.2.1+1),())<rM2 a y
  else Li y.1 (szr left S)
theorem szV_ok{α:Type}{f:α→Nat}{z:α}{a:List α}{S:Nat}{left:Int}(hS:S=a.length+(a.map f).sum)(hp0:0≤left)(hl: -9223372036854775808≤left∧left≤9223372036854775807)(hla:a.length≤9223372036854775807):szV f z a S left:=by
 subst hS
 unfold szV
 rw[wrap_i64 (by omega) (by omega)]
 refine if_cond (fun h=>Lf_i ?_) (fun h=>⟨?_,?_⟩)
 ·simp[szr] at*;omega
 ·simp at h
  have h':0≤left-a.length:=by omega
  exact⟨h',by show(0:Int)≤0;omega,by show(0:Int)≤a.length;omega,szr_sub h'⟩
 rintro⟨lf,i,⟨⟩⟩ ⟨h0,h1,h2,hR⟩
 refine if_cond (fun hc=> ?_) (fun hc=> ?_)
 ·have hc:i<a.length:=by simpa using hc
  simp only at h0 h1 h2 hR⊢
  rw[drop_step a z h1 hc,List.map_cons,List.sum_cons] at hR
  rw[wrap_i64 (by omega) (by omega)]
  generalize List.getD a i.toNat z=x at*
  refine⟨by omega,by omega,by omega,if_cond (fun h=>Lf_i ?_) (fun h=>⟨⟨?_,by show(0:Int)≤i+1;omega,by show i+1≤a.length;omega,?_⟩,?_⟩)⟩
  ·rw[←hR];exact(szr_bad (of_decide_eq_true h)).symm
  ·simp at h;exact h
  ·show szr (szr lf (f x)) _=_
   rw[←hR];simp at h;exact szr_szr h
  ·simp only[rM2];omega
 ·have hc:a.length≤i:=by simpa using hc
  simp only at h0 h1 h2 hR⊢
  rw[drop_end a hc] at hR
  apply Lf_i;rw[←hR];simp[szr,h0]
def toI{α:Type}(z:α)(a:List α):List α×Int×Unit→Prop:=fun y=>0≤y.2.1∧y.2.1≤a.length∧y.1=a.take y.2.1.toNat++List.replicate (a.length-y.2.1.toNat) z
def toV{α:Type}(f:α→Nat)(z:α)(a:List α)(L:List α→Prop):Prop:=
 0≤(a.length:Int)∧(a.length:Int)=(a.length:Int)∧(a.length:Int)≤4294967296∧toI z a (List.replicate (a.length:Int).toNat z,0,())∧
  ∀y:List α×Int×PUnit,toI z a y→bif decide (y.2.1<(a.length:Int)) then 0≤y.2.1∧y.2.1.toNat<a.length∧f (a.getD y.2.1.toNat z)≤4294967296∧0≤y.2.1∧y.2.1.toNat<y.1.length∧y.2.1.toNat<y.1.length∧
   toI z a (y.1.set y.2.1.toNat (a.getD y.2.1.toNat z),IntKind.wrap .i64 (y.2.1+1),())∧rM2 a (y.1.set y.2.1.toNat (a.getD y.2.1.toNat z),IntKind.wrap .i64 (y.2.1+1),())<rM2 a y
  else L y.1
theorem toV_ok{α:Type}{f:α→Nat}{z:α}{a:List α}{L:List α→Prop}(hp0:a.length+(a.map f).sum≤4294967296)(hL:L a):toV f z a L:=by
 refine⟨by omega,rfl,by omega,⟨by show(0:Int)≤0;omega,by show(0:Int)≤a.length;omega,by simp⟩,?_⟩
 rintro⟨out,i,⟨⟩⟩ ⟨h1,h2,h3⟩
 simp only at h1 h2 h3
 subst h3
 refine if_cond (fun hc=> ?_) (fun hc=> ?_)
 ·have hc:i<a.length:=by simpa using hc
  simp only
  rw[wrap_i64 (by omega) (by omega),set_fill a z h1 hc]
  exact⟨h1,by omega,Nat.le_trans (sum_getD_le f a z h1 hc) (by omega),h1,by simp;omega,by simp;omega,⟨by show(0:Int)≤i+1;omega,by show i+1≤a.length;omega,rfl⟩,by simp only[rM2];omega⟩
 ·have hc:a.length≤i:=by simpa using hc
  have e:i.toNat=a.length:=by omega
  simp only
  rw[e];simpa using hL
def eqI{α:Type}(a b:List α):Int×Unit→Prop:=fun y=>0≤y.1∧y.1≤a.length∧a.length=b.length∧(a.drop y.1.toNat=b.drop y.1.toNat↔a=b)
noncomputable def eqV{α:Type}[DecidableEq α](z:α)(a b:List α):Prop:=
 bif (a.length:Int) !=(b.length:Int) then Lb false (decide (a=b))
 else eqI a b (0,())∧∀y:Int×PUnit,eqI a b y→bif decide (y.1<(a.length:Int)) then 0≤y.1∧y.1.toNat<a.length∧0≤y.1∧y.1.toNat<b.length∧
   bif !decide (a.getD y.1.toNat z=b.getD y.1.toNat z) then Lb false (decide (a=b))
   else eqI a b (IntKind.wrap .i64 (y.1+1),())∧rM1 a (IntKind.wrap .i64 (y.1+1),())<rM1 a y
  else Lb true (decide (a=b))
theorem eqV_ok{α:Type}[DecidableEq α]{z:α}{a b:List α}(hl:a.length≤9223372036854775807):eqV z a b:=by
 unfold eqV
 refine if_cond (fun h=>Lf_f ?_) (fun h=>⟨?_,?_⟩)
 ·rintro rfl;simp at h
 ·have h:(a.length:Int)=b.length:=by simpa using h
  exact⟨by show(0:Int)≤0;omega,by show(0:Int)≤a.length;omega,by omega,by simp⟩
 rintro⟨i,⟨⟩⟩ ⟨h1,h2,h3,hR⟩
 simp only at h1 h2 h3 hR
 refine if_cond (fun hc=> ?_) (fun hc=> ?_)
 ·have hc:i<a.length:=by simpa using hc
  rw[drop_step a z h1 hc,drop_step b z h1 (by omega)] at hR
  simp only
  rw[wrap_i64 (by omega) (by omega)]
  refine⟨by omega,by omega,by omega,by omega,if_cond (fun h=>Lf_f ?_) (fun h=>⟨⟨by show(0:Int)≤i+1;omega,by show i+1≤a.length;omega,h3,?_⟩,?_⟩)⟩
  ·rw[←hR];simp at h;simp[h]
  ·show a.drop (i+1).toNat=b.drop (i+1).toNat↔a=b
   rw[←hR];simp at h;simp[h]
  ·simp only[rM1];omega
 ·have hc:a.length≤i:=by simpa using hc
  rw[drop_end a hc,drop_end b (by omega)] at hR
  exact Lf_t (hR.1 rfl)
def smallB(b:Int):Bool:=decide (97≤b∧b≤122)
def wordB(b:Int):Bool:=smallB b||decide (48≤b∧b≤57)||decide (b=95)
def wordS(s:ByteArray):Bool:=(bs s).all (byteP wordB)
def nameOk(s:ByteArray):Bool:=decide (1≤s.size∧s.size≤12)&&smallB (List.getD (bs s) 0 0).toNat&&wordS s
def valOk(v:DVal):Bool:=bif decide (v.K=1) then decide (-1000000000≤v.N∧v.N≤1000000000)&&decide (v.S=noBytes) else bif decide (v.K=2) then decide (v.N=0)&&decide (v.S.size≤20)&&wordS v.S else false
def factOk(f:DFact):Bool:=nameOk f.Kind&&decide (f.Fields.length≤5)&&f.Fields.all valOk
def Zk56:Con UU where
 α:=Int×Int×Int
 md:=[.ro,.ro,.ro]
 of:=oC oI (oC oI (o1 oI))
 ds:=fun x=>[dI x.1,dI x.2.1,dI x.2.2]
 pre:=fun _=>[]
 res:=fun(n,least,most)=>⟨[.one (.lit (.bool (decide (least≤n∧n≤most))))],true,[]⟩
 law:=lC lI (lC lI (l1 lI))
def Za56:Zk56.α→Nat→Option (Ann UU):=fun(n,least,most)=>annL []
def Zu56:List (FuncId×Con UU):=[]
theorem Zv56(n:Int)(least:Int)(most:Int):goal EE Zu56 Go.Proofs.Tryz.f56 Zk56 Za56 (n,least,most)=(bif decide (n≥least) then Lb (decide (n≤most)) (decide (least≤n∧n≤most)) else Lb false (decide (least≤n∧n≤most))):=by kernel_rfl
theorem Zo56:Holds EE (56,Zk56):=by
 refine holds_of EE_ok Go.Proofs.Tryz.func56 Zk56 (by kernel_rfl) Zu56 all_nil Za56 (fun x hp hb=> ?_)
 obtain⟨n,least,most⟩:=x
 have hl_n:=bdI (n:=n) (hb _ m0)
 have hl_least:=bdI (n:=least) (hb _ m1)
 have hl_most:=bdI (n:=most) (hb _ m2)
 clear hp hb
 rw[Zv56 n least most]
 refine if_cond (fun h=>Lf_b ?_) (fun h=>Lf_b ?_)<;>grind
def Zh56:HH:=⟨_,Zo56⟩
def Zk40:Con UU where
 α:=Int×Int×Int
 md:=[.ro,.ro,.ro]
 of:=oC oI (oC oI (o1 oI))
 ds:=fun x=>[dI x.1,dI x.2.1,dI x.2.2]
 pre:=fun _=>[]
 res:=fun(x,least,most)=>⟨[.one (.lit (.bool (decide (least≤x∧x≤most))))],true,[]⟩
 law:=lC lI (lC lI (l1 lI))
def Za40:Zk40.α→Nat→Option (Ann UU):=fun(x,least,most)=>annL []
def Zu40:List (FuncId×Con UU):=[]
theorem Zv40(x:Int)(least:Int)(most:Int):goal EE Zu40 Go.Proofs.Tryz.f40 Zk40 Za40 (x,least,most)=(bif decide (x≥least) then Lb (decide (x≤most)) (decide (least≤x∧x≤most)) else Lb false (decide (least≤x∧x≤most))):=by kernel_rfl
theorem Zo40:Holds EE (40,Zk40):=by
 refine holds_of EE_ok Go.Proofs.Tryz.func40 Zk40 (by kernel_rfl) Zu40 all_nil Za40 (fun x hp hb=> ?_)
 obtain⟨x,least,most⟩:=x
 have hl_x:=bdI (n:=x) (hb _ m0)
 have hl_least:=bdI (n:=least) (hb _ m1)
 have hl_most:=bdI (n:=most) (hb _ m2)
 clear hp hb
 rw[Zv40 x least most]
 refine if_cond (fun h=>Lf_b ?_) (fun h=>Lf_b ?_)<;>grind
def Zh40:HH:=⟨_,Zo40⟩
def Zk138:Con UU where
 α:=Int
 md:=[.ro]
 of:=o1 oY
 ds:=fun x=>[dY x]
 pre:=fun _=>[]
 res:=fun b=>⟨[.one (.lit (.bool (smallB b)))],true,[]⟩
 law:=l1 lY
def Za138:Zk138.α→Nat→Option (Ann UU):=fun b=>annL []
def Zu138:List (FuncId×Con UU):=[]
theorem Zv138(b:Int):goal EE Zu138 Go.Proofs.Tryz.f138 Zk138 Za138 b=(bif decide (b≥(97:Int)) then Lb (decide (b≤(122:Int))) (smallB b) else Lb false (smallB b)):=by kernel_rfl
theorem Zo138:Holds EE (138,Zk138):=by
 refine holds_of EE_ok Go.Proofs.Tryz.func138 Zk138 (by kernel_rfl) Zu138 all_nil Za138 (fun(b:Int) hp hb=> ?_)
 skip
 clear hp hb
 rw[Zv138 b]
 refine if_cond (fun h=>Lf_b ?_) (fun h=>Lf_b ?_)<;>grind [smallB]
def Zh138:HH:=⟨_,Zo138⟩
def Zk226:Con UU where
 α:=Int
 md:=[.ro]
 of:=o1 oY
 ds:=fun x=>[dY x]
 pre:=fun _=>[]
 res:=fun b=>⟨[.one (.lit (.bool (decide (48≤b∧b≤57))))],true,[]⟩
 law:=l1 lY
def Za226:Zk226.α→Nat→Option (Ann UU):=fun b=>annL []
def Zu226:List (FuncId×Con UU):=[]
theorem Zv226(b:Int):goal EE Zu226 Go.Proofs.Tryz.f226 Zk226 Za226 b=(bif decide (b≥(48:Int)) then Lb (decide (b≤(57:Int))) (decide ((48:Int)≤b∧b≤(57:Int))) else Lb false (decide ((48:Int)≤b∧b≤(57:Int)))):=by kernel_rfl
theorem Zo226:Holds EE (226,Zk226):=by
 refine holds_of EE_ok Go.Proofs.Tryz.func226 Zk226 (by kernel_rfl) Zu226 all_nil Za226 (fun(b:Int) hp hb=> ?_)
 skip
 clear hp hb
 rw[Zv226 b]
 refine if_cond (fun h=>Lf_b ?_) (fun h=>Lf_b ?_)<;>grind
def Zh226:HH:=⟨_,Zo226⟩
def Zk194:Con UU where
 α:=Int
 md:=[.ro]
 of:=o1 oY
 ds:=fun x=>[dY x]
 pre:=fun _=>[]
 res:=fun b=>⟨[.one (.lit (.bool (wordB b)))],true,[]⟩
 law:=l1 lY
def Za194:Zk194.α→Nat→Option (Ann UU):=fun b=>annL []
def Zu194:=us [Zh138,Zh226]
theorem Zv194(b:Int):goal EE Zu194 Go.Proofs.Tryz.f194 Zk194 Za194 b=(bif smallB b then Lb true (wordB b) else bif decide ((48:Int)≤b∧b≤(57:Int)) then Lb true (wordB b) else Lb (b==(95:Int)) (wordB b)):=by kernel_rfl
theorem Zo194:Holds EE (194,Zk194):=by
 refine holds_of EE_ok Go.Proofs.Tryz.func194 Zk194 (by kernel_rfl) Zu194 (us_ok _) Za194 (fun(b:Int) hp hb=> ?_)
 skip
 clear hp hb
 rw[Zv194 b]
 refine if_cond (fun h=>Lf_b ?_) (fun h=> ?_)
 ·grind [wordB]
 refine if_cond (fun h=>Lf_b ?_) (fun h=>Lf_b ?_)<;>grind [wordB]
def Zh194:HH:=⟨_,Zo194⟩
def Zk134:Con UU where
 α:=Int
 md:=[.ro]
 of:=o1 oY
 ds:=fun x=>[dY x]
 pre:=fun c=>[0≤c∧c≤255]
 res:=fun c=>⟨[.one (.lit (.bool (wordB c)))],true,[]⟩
 law:=l1 lY
def Za134:Zk134.α→Nat→Option (Ann UU):=fun c=>annL []
def Zu134:=us [Zh40]
theorem Zv134(c:Int):goal EE Zu134 Go.Proofs.Tryz.f134 Zk134 Za134 c=(bif decide ((97:Int)≤IntKind.wrap IntKind.i64 c∧IntKind.wrap IntKind.i64 c≤(122:Int)) then Lb true (wordB c) else bif decide ((48:Int)≤IntKind.wrap IntKind.i64 c∧IntKind.wrap IntKind.i64 c≤(57:Int)) then Lb true (wordB c) else Lb (c==(95:Int)) (wordB c)):=by kernel_rfl
theorem Zo134:Holds EE (134,Zk134):=by
 refine holds_of EE_ok Go.Proofs.Tryz.func134 Zk134 (by kernel_rfl) Zu134 (us_ok _) Za134 (fun(c:Int) hp hb=> ?_)
 have hp0:0≤c∧c≤255:=hp _ m0
 clear hp hb
 rw[Zv134 c]
 rw[wrap_i64 (by omega) (by omega)]
 refine if_cond (fun h=>Lf_b ?_) (fun h=> ?_)
 ·grind [wordB,smallB]
 refine if_cond (fun h=>Lf_b ?_) (fun h=>Lf_b ?_)<;>grind [wordB,smallB]
def Zh134:HH:=⟨_,Zo134⟩
def Zk139:Con UU where
 α:=ByteArray×Int
 md:=[.ro,.ro]
 of:=oC oS (o1 oI)
 ds:=fun x=>[dS x.1,dI x.2]
 pre:=fun _=>[]
 res:=fun(s,most)=>⟨[.one (.lit (.bool (decide (s.size≤most)&&wordS s)))],true,[]⟩
 law:=lC lS (l1 lI)
def Zi139_4(s:ByteArray)(most:Int):Int×Unit→Prop:=fun(i,_)=>0≤i∧i≤s.size∧s.size≤most∧((bs s).drop i.toNat).all (byteP wordB)=wordS s
def Zm139_4(s:ByteArray)(most:Int):Int×Unit→Nat:=fun(i,_)=>s.size-i.toNat
def Za139:Zk139.α→Nat→Option (Ann UU):=fun(s,most)=>annL [(4,annOf [.slot 5 (5,1024) (.lit (.int .i64))] (fun _=>Zi139_4 s most) (Zm139_4 s most))]
def Zu139:=us [Zh194]
theorem Zv139(s:ByteArray)(most:Int):goal EE Zu139 Go.Proofs.Tryz.f139 Zk139 Za139 (s,most)=(bif decide ((↑(ByteArray.size s):Int)>most) then Lb false (decide ((↑(ByteArray.size s):Int)≤most)&&wordS s) else Zi139_4 s most ((0:Int),())∧∀(y:Int×PUnit),Zi139_4 s most y→bif decide (y.1<(↑(ByteArray.size s):Int)) then(0:Int)≤y.1∧y.1.toNat<ByteArray.size s∧bif !wordB (↑(UInt8.toNat (List.getD s.data.toList y.1.toNat (0:UInt8))):Int) then Lb false (decide ((↑(ByteArray.size s):Int)≤most)&&wordS s) else Zi139_4 s most (IntKind.wrap IntKind.i64 (y.1+(1:Int)),())∧Zm139_4 s most (IntKind.wrap IntKind.i64 (y.1+(1:Int)),())<Zm139_4 s most y else Lb true (decide ((↑(ByteArray.size s):Int)≤most)&&wordS s)):=by kernel_rfl
theorem Zo139:Holds EE (139,Zk139):=by
 refine holds_of EE_ok Go.Proofs.Tryz.func139 Zk139 (by kernel_rfl) Zu139 (us_ok _) Za139 (fun x hp hb=> ?_)
 obtain⟨s,most⟩:=x
 have hl_s:=bdS (s:=s) (hb _ m0)
 have hl_most:=bdI (n:=most) (hb _ m1)
 clear hp hb
 rw[Zv139 s most]
 refine if_cond (fun h=>Lf_ff ?_) (fun h=> ?_)
 ·have h:=of_decide_eq_true h;rw[decide_eq_false (by omega)];rfl
 have h0:=of_decide_eq_false h
 refine⟨⟨by omega,by omega,by omega,rfl⟩,?_⟩
 rintro⟨i,⟨⟩⟩ ⟨h1,h2,h3,hR⟩
 have hl:=bs_len s
 simp only[bs_eq]
 refine if_cond (fun hc=> ?_) (fun hc=> ?_)
 ·have hc:=of_decide_eq_true hc
  rw[all_step _ _ 0 h1 (by omega)] at hR
  rw[wrap_i64 (by omega) (by omega)]
  refine⟨by omega,by omega,if_cond (fun h=>Lf_ff ?_) (fun h=>⟨⟨by omega,by omega,by omega,?_⟩,?_⟩)⟩
  ·rw[←hR];simp only[byteP];simp at h;simp[h]
  ·rw[←hR];simp only[byteP];simp at h;simp[h]
  ·simp only[Zm139_4];omega
 ·have hc:=of_decide_eq_false hc
  rw[drop_end _ (by omega)] at hR
  exact Lf_tt (by rw[←hR,decide_eq_true h3];rfl)
def Zh139:HH:=⟨_,Zo139⟩
def Zk76:Con UU where
 α:=ByteArray
 md:=[.ro]
 of:=o1 oS
 ds:=fun x=>[dS x]
 pre:=fun _=>[]
 res:=fun s=>⟨[.one (.lit (.bool (nameOk s)))],true,[]⟩
 law:=l1 lS
def Za76:Zk76.α→Nat→Option (Ann UU):=fun s=>annL []
def Zu76:=us [Zh138,Zh139]
theorem Zv76(s:ByteArray):goal EE Zu76 Go.Proofs.Tryz.f76 Zk76 Za76 s=(bif decide ((↑(ByteArray.size s):Int)>(0:Int)) then(0:Int)≤(0:Int)∧Int.toNat (0:Int)<ByteArray.size s∧bif smallB (↑(UInt8.toNat (List.getD s.data.toList (Int.toNat (0:Int)) (0:UInt8))):Int) then Lb (decide ((↑(ByteArray.size s):Int)≤(12:Int))&&wordS s) (nameOk s) else Lb false (nameOk s) else Lb false (nameOk s)):=by kernel_rfl
theorem Zo76:Holds EE (76,Zk76):=by
 refine holds_of EE_ok Go.Proofs.Tryz.func76 Zk76 (by kernel_rfl) Zu76 (us_ok _) Za76 (fun(s:ByteArray) hp hb=> ?_)
 have hl_s:=bdS (s:=s) (hb _ m0)
 clear hp hb
 rw[Zv76 s]
 have hl:=bs_len s
 simp only[bs_eq]
 refine if_cond (fun h=> ?_) (fun h=>Lf_ff ?_)
 ·have h:=of_decide_eq_true h
  refine⟨by omega,by omega,if_cond (fun h'=>Lf_b ?_) (fun h'=>Lf_ff ?_)⟩
  ·have h':smallB ((List.getD (bs s) 0 0).toNat:Int)=true:=h'
   simp only[nameOk,h']
   have e:decide (1≤s.size∧s.size≤12)=decide ((s.size:Int)≤12):=by rw[decide_eq_decide];omega
   rw[e];simp
  ·have h':smallB ((List.getD (bs s) 0 0).toNat:Int)=false:=h'
   simp only[nameOk,h'];grind
 ·have h:=of_decide_eq_false h
  simp only[nameOk];rw[decide_eq_false (by omega)];rfl
def Zh76:HH:=⟨_,Zo76⟩
def Zk71:Con UU where
 α:=ByteArray
 md:=[.ro]
 of:=o1 oS
 ds:=fun x=>[dS x]
 pre:=fun _=>[]
 res:=fun s=>⟨[.one (.lit (.bool (nameOk s)))],true,[]⟩
 law:=l1 lS
def Zi71_2(s:ByteArray):Int×Unit→Prop:=fun(i,_)=>0≤i∧i≤s.size∧((bs s).drop i.toNat).all (byteP wordB)=wordS s∧(0<i→smallB (List.getD (bs s) 0 0).toNat=true)
def Zm71_2(s:ByteArray):Int×Unit→Nat:=fun(i,_)=>s.size-i.toNat
def Za71:Zk71.α→Nat→Option (Ann UU):=fun s=>annL [(2,annOf [.slot 3 (3,1024) (.lit (.int .i64))] (fun _=>Zi71_2 s) (Zm71_2 s))]
def Zu71:=us [Zh134,Zh40]
theorem Zv71(s:ByteArray):goal EE Zu71 Go.Proofs.Tryz.f71 Zk71 Za71 s=(Zi71_2 s ((0:Int),())∧
 ∀(y:Int×PUnit),
  let x0:Int:=(↑(UInt8.toNat (List.getD s.data.toList (Int.toNat y.1) (0:UInt8))):Int);
  Zi71_2 s y→bif decide (y.1<(↑(ByteArray.size s):Int)) then(0:Int)≤y.1∧Int.toNat y.1<ByteArray.size s∧((0:Int)≤x0∧x0≤(255:Int))∧bif !wordB x0 then Lf [DV.one (Cell.lit (Value.bool false))] [DV.one (Cell.lit (Value.bool (nameOk s)))] else bif y.1==(0:Int) then(0:Int)≤y.1∧Int.toNat y.1<ByteArray.size s∧bif !decide ((97:Int)≤IntKind.wrap IntKind.i64 x0∧IntKind.wrap IntKind.i64 x0≤(122:Int)) then Lf [DV.one (Cell.lit (Value.bool false))] [DV.one (Cell.lit (Value.bool (nameOk s)))] else Zi71_2 s (IntKind.wrap IntKind.i64 (y.1+(1:Int)),PUnit.unit)∧Zm71_2 s (IntKind.wrap IntKind.i64 (y.1+(1:Int)),PUnit.unit)<Zm71_2 s y else Zi71_2 s (IntKind.wrap IntKind.i64 (y.1+(1:Int)),PUnit.unit)∧Zm71_2 s (IntKind.wrap IntKind.i64 (y.1+(1:Int)),PUnit.unit)<Zm71_2 s y else Lf [DV.one (Cell.lit (Value.bool (decide ((1:Int)≤(↑(ByteArray.size s):Int)∧(↑(ByteArray.size s):Int)≤(12:Int)))))] [DV.one (Cell.lit (Value.bool (nameOk s)))]):=by kernel_rfl
theorem Zo71:Holds EE (71,Zk71):=by
 refine holds_of EE_ok Go.Proofs.Tryz.func71 Zk71 (by kernel_rfl) Zu71 (us_ok _) Za71 (fun(s:ByteArray) hp hb=> ?_)
 have hl_s:=bdS (s:=s) (hb _ m0)
 clear hp hb
 rw[Zv71 s]
 dsimp only
 refine⟨⟨by omega,by omega,rfl,by omega⟩,?_⟩
 rintro⟨i,⟨⟩⟩ ⟨h1,h2,hR,hS⟩
 have hl:=bs_len s
 simp only[bs_eq,u8_i64]
 refine if_cond (fun hc=> ?_) (fun hc=> ?_)
 ·have hc:=of_decide_eq_true hc
  have hb:=(List.getD (bs s) i.toNat 0).toNat_lt
  rw[all_step _ _ 0 h1 (by omega)] at hR
  rw[wrap_i64 (by omega) (by omega)]
  have hN:wordS s=false→nameOk s=false:=fun h=>by simp[nameOk,h]
  refine⟨by omega,by omega,⟨by omega,by omega⟩,if_cond (fun h=>Lf_ff (hN ?_)) (fun h=>if_cond (fun h'=>⟨by omega,by omega,if_cond (fun h''=>Lf_ff ?_) (fun h''=>⟨⟨by omega,by omega,?_,fun _=> ?_⟩,?_⟩)⟩) (fun h'=>⟨⟨by omega,by omega,?_,fun _=>hS ?_⟩,?_⟩))⟩
  ·rw[←hR];simp only[byteP];simp at h;simp[h]
  ·have h':i=0:=by simpa using h'
   subst h'
   have h'':smallB ((List.getD (bs s) 0 0).toNat:Int)=false:=by simp only[smallB];grind
   simp only[nameOk,h''];grind
  ·rw[←hR];simp only[byteP];simp at h;simp[h]
  ·have h':i=0:=by simpa using h'
   subst h'
   simpa[smallB] using h''
  ·simp only[Zm71_2];omega
  ·rw[←hR];simp only[byteP];simp at h;simp[h]
  ·have h':¬i=0:=by simpa using h'
   omega
  ·simp only[Zm71_2];omega
 ·have hc:=of_decide_eq_false hc
  rw[drop_end _ (by omega)] at hR
  refine Lf_b ?_
  simp only[nameOk,←hR]
  by_cases hz:0<i
  ·rw[hS hz];simp only[List.all_nil];grind
  ·rw[decide_eq_false (by omega),decide_eq_false (by omega)];rfl
def Zh71:HH:=⟨_,Zo71⟩
def Zk211:Con UU where
 α:=ByteArray
 md:=[.ro]
 of:=o1 oS
 ds:=fun x=>[dS x]
 pre:=fun _=>[]
 res:=fun s=>⟨[.one (.lit (.bool (decide (s.size≤20)&&wordS s)))],true,[]⟩
 law:=l1 lS
def Zi211_2(s:ByteArray):Int×Unit→Prop:=fun(i,_)=>0≤i∧i≤s.size∧((bs s).drop i.toNat).all (byteP wordB)=wordS s
def Zm211_2(s:ByteArray):Int×Unit→Nat:=fun(i,_)=>s.size-i.toNat
def Za211:Zk211.α→Nat→Option (Ann UU):=fun s=>annL [(2,annOf [.slot 3 (3,1024) (.lit (.int .i64))] (fun _=>Zi211_2 s) (Zm211_2 s))]
def Zu211:=us [Zh134]
theorem Zv211(s:ByteArray):goal EE Zu211 Go.Proofs.Tryz.f211 Zk211 Za211 s=(Zi211_2 s ((0:Int),())∧
 ∀(y:Int×PUnit),
  let x0:Int:=(↑(UInt8.toNat (List.getD s.data.toList (Int.toNat y.1) (0:UInt8))):Int);
  Zi211_2 s y→bif decide (y.1<(↑(ByteArray.size s):Int)) then(0:Int)≤y.1∧Int.toNat y.1<ByteArray.size s∧((0:Int)≤x0∧x0≤(255:Int))∧bif !wordB x0 then Lf [DV.one (Cell.lit (Value.bool false))] [DV.one (Cell.lit (Value.bool (decide (ByteArray.size s≤(20:Nat))&&wordS s)))] else Zi211_2 s (IntKind.wrap IntKind.i64 (y.1+(1:Int)),PUnit.unit)∧Zm211_2 s (IntKind.wrap IntKind.i64 (y.1+(1:Int)),PUnit.unit)<Zm211_2 s y else Lf [DV.one (Cell.lit (Value.bool (decide ((↑(ByteArray.size s):Int)≤(20:Int)))))] [DV.one (Cell.lit (Value.bool (decide (ByteArray.size s≤(20:Nat))&&wordS s)))]):=by kernel_rfl
theorem Zo211:Holds EE (211,Zk211):=by
 refine holds_of EE_ok Go.Proofs.Tryz.func211 Zk211 (by kernel_rfl) Zu211 (us_ok _) Za211 (fun(s:ByteArray) hp hb=> ?_)
 have hl_s:=bdS (s:=s) (hb _ m0)
 clear hp hb
 rw[Zv211 s]
 dsimp only
 refine⟨⟨by omega,by omega,rfl⟩,?_⟩
 rintro⟨i,⟨⟩⟩ ⟨h1,h2,hR⟩
 have hl:=bs_len s
 simp only[bs_eq]
 refine if_cond (fun hc=> ?_) (fun hc=> ?_)
 ·have hc:=of_decide_eq_true hc
  have hb:=(List.getD (bs s) i.toNat 0).toNat_lt
  rw[all_step _ _ 0 h1 (by omega)] at hR
  rw[wrap_i64 (by omega) (by omega)]
  refine⟨by omega,by omega,⟨by omega,by omega⟩,if_cond (fun h=>Lf_ff ?_) (fun h=>⟨⟨by omega,by omega,?_⟩,?_⟩)⟩
  ·rw[←hR];simp only[byteP];simp at h;simp[h]
  ·rw[←hR];simp only[byteP];simp at h;simp[h]
  ·simp only[Zm211_2];omega
 ·have hc:=of_decide_eq_false hc
  rw[drop_end _ (by omega)] at hR
  refine Lf_b ?_
  rw[←hR];simp;omega
def Zh211:HH:=⟨_,Zo211⟩
def Zk182:Con UU where
 α:=DVal
 md:=[.ro]
 of:=o1 (oA .eVal)
 ds:=fun x=>[dA .eVal x]
 pre:=fun _=>[]
 res:=fun v=>⟨[.one (.lit (.bool (valOk v)))],true,[]⟩
 law:=l1 (lA .eVal)
def Za182:Zk182.α→Nat→Option (Ann UU):=fun v=>annL []
def Zu182:=us [Zh56,Zh139]
theorem Zv182(v:DVal):goal EE Zu182 Go.Proofs.Tryz.f182 Zk182 Za182 v=(bif v.K==(1:Int) then bif decide ((-1000000000:Int)≤v.N∧v.N≤(1000000000:Int)) then Lb (ByteArray.toList v.S==ByteArray.toList {data:= #[]:ByteArray}) (valOk v) else Lb false (valOk v) else bif v.K==(2:Int) then bif v.N==(0:Int) then Lb (decide ((↑(ByteArray.size v.S):Int)≤(20:Int))&&wordS v.S) (valOk v) else Lb false (valOk v) else Lb false (valOk v)):=by kernel_rfl
theorem Zo182:Holds EE (182,Zk182):=by
 refine holds_of EE_ok Go.Proofs.Tryz.func182 Zk182 (by kernel_rfl) Zu182 (us_ok _) Za182 (fun(v:DVal) hp hb=> ?_)
 have hl_v_S:=bd_eVal (x:=v) (hb _ m0)
 clear hp hb
 rw[Zv182 v]
 have e:(ByteArray.toList (DVal.S v)==ByteArray.toList {data:= #[]})=decide (v.S=noBytes):=toList_beq _ _
 simp only[e,valOk]
 repeat' (refine if_cond (fun h=> ?_) (fun h=> ?_))
 all_goals (refine Lf_b ?_;grind)
def Zh182:HH:=⟨_,Zo182⟩
def Zk165:Con UU where
 α:=DVal
 md:=[.ro]
 of:=o1 (oA .eVal)
 ds:=fun x=>[dA .eVal x]
 pre:=fun _=>[]
 res:=fun v=>⟨[.one (.lit (.bool (valOk v)))],true,[]⟩
 law:=l1 (lA .eVal)
def Za165:Zk165.α→Nat→Option (Ann UU):=fun v=>annL []
def Zu165:=us [Zh40,Zh211]
theorem Zv165(v:DVal):goal EE Zu165 Go.Proofs.Tryz.f165 Zk165 Za165 v=(bif v.K==(1:Int) then bif decide ((-1000000000:Int)≤v.N∧v.N≤(1000000000:Int)) then Lb (ByteArray.toList v.S==ByteArray.toList {data:= #[]:ByteArray}) (valOk v) else Lb false (valOk v) else bif v.K==(2:Int) then bif decide (ByteArray.size v.S≤(20:Nat))&&wordS v.S then Lb (v.N==(0:Int)) (valOk v) else Lb false (valOk v) else Lb false (valOk v)):=by kernel_rfl
theorem Zo165:Holds EE (165,Zk165):=by
 refine holds_of EE_ok Go.Proofs.Tryz.func165 Zk165 (by kernel_rfl) Zu165 (us_ok _) Za165 (fun(v:DVal) hp hb=> ?_)
 have hl_v_S:=bd_eVal (x:=v) (hb _ m0)
 clear hp hb
 rw[Zv165 v]
 have e:(ByteArray.toList (DVal.S v)==ByteArray.toList {data:= #[]})=decide (v.S=noBytes):=toList_beq _ _
 simp only[e,valOk]
 repeat' (refine if_cond (fun h=> ?_) (fun h=> ?_))
 all_goals (refine Lf_b ?_;grind)
def Zh165:HH:=⟨_,Zo165⟩
def Zk163:Con UU where
 α:=(List DVal)
 md:=[.ro]
 of:=o1 (oL .eVal)
 ds:=fun x=>[dL .eVal x]
 pre:=fun _=>[]
 res:=fun l=>⟨[.one (.lit (.bool (decide (l.length≤5)&&l.all valOk)))],true,[]⟩
 law:=l1 (lL .eVal)
def Zi163_2(l:(List DVal)):Int×Unit→Prop:=fun(i,_)=>0≤i∧i≤l.length∧(l.drop i.toNat).all valOk=l.all valOk
def Zm163_2(l:(List DVal)):Int×Unit→Nat:=fun(i,_)=>l.length-i.toNat
def Za163:Zk163.α→Nat→Option (Ann UU):=fun l=>annL [(2,annOf [.slot 3 (3,1024) (.lit (.int .i64))] (fun _=>Zi163_2 l) (Zm163_2 l))]
def Zu163:=us [Zh165]
theorem Zv163(l:(List DVal)):goal EE Zu163 Go.Proofs.Tryz.f163 Zk163 Za163 l=(let x0:Int:=(l.length:Int);
Zi163_2 l ((0:Int),PUnit.unit)∧∀(y:Int×PUnit),Zi163_2 l y→bif decide (y.1<x0) then(0:Int)≤y.1∧Int.toNat y.1<List.length l∧bif !valOk (List.getD l (Int.toNat y.1) zVal) then Lf [DV.one (Cell.lit (Value.bool false))] [DV.one (Cell.lit (Value.bool (decide (List.length l≤(5:Nat))&&List.all l valOk)))] else Zi163_2 l (IntKind.wrap IntKind.i64 (y.1+(1:Int)),PUnit.unit)∧Zm163_2 l (IntKind.wrap IntKind.i64 (y.1+(1:Int)),PUnit.unit)<Zm163_2 l y else Lf [DV.one (Cell.lit (Value.bool (decide (x0≤(5:Int)))))] [DV.one (Cell.lit (Value.bool (decide (List.length l≤(5:Nat))&&List.all l valOk)))]):=by kernel_rfl
theorem Zo163:Holds EE (163,Zk163):=by
 refine holds_of EE_ok Go.Proofs.Tryz.func163 Zk163 (by kernel_rfl) Zu163 (us_ok _) Za163 (fun(l:(List DVal)) hp hb=> ?_)
 have hl_l:l.length≤9223372036854775807:=bdL (hb _ m0)
 clear hp hb
 rw[Zv163 l]
 dsimp only
 refine⟨⟨by omega,by omega,rfl⟩,?_⟩
 rintro⟨i,⟨⟩⟩ ⟨h1,h2,hR⟩
 simp only
 refine if_cond (fun hc=> ?_) (fun hc=> ?_)
 ·have hc:=of_decide_eq_true hc
  rw[all_step _ _ zVal h1 (by omega)] at hR
  rw[wrap_i64 (by omega) (by omega)]
  refine⟨by omega,by omega,if_cond (fun h=>Lf_ff ?_) (fun h=>⟨⟨by omega,by omega,?_⟩,?_⟩)⟩
  ·rw[←hR];simp at h;simp[h]
  ·rw[←hR];simp at h;simp[h]
  ·simp only[Zm163_2];omega
 ·have hc:=of_decide_eq_false hc
  rw[drop_end _ (by omega)] at hR
  refine Lf_b ?_
  rw[←hR];simp;omega
def Zh163:HH:=⟨_,Zo163⟩
def Zk104:Con UU where
 α:=DFact
 md:=[.ro]
 of:=o1 (oA .eFact)
 ds:=fun x=>[dA .eFact x]
 pre:=fun _=>[]
 res:=fun f=>⟨[.one (.lit (.bool (factOk f)))],true,[]⟩
 law:=l1 (lA .eFact)
def Za104:Zk104.α→Nat→Option (Ann UU):=fun f=>annL []
def Zu104:=us [Zh71,Zh163]
theorem Zv104(f:DFact):goal EE Zu104 Go.Proofs.Tryz.f104 Zk104 Za104 f=(bif nameOk f.Kind then Lb (decide (f.Fields.length≤(5:Nat))&&List.all f.Fields valOk) (factOk f) else Lb false (factOk f)):=by kernel_rfl
theorem Zo104:Holds EE (104,Zk104):=by
 refine holds_of EE_ok Go.Proofs.Tryz.func104 Zk104 (by kernel_rfl) Zu104 (us_ok _) Za104 (fun(f:DFact) hp hb=> ?_)
 have hz0:=bd_eFact (x:=f) (hb _ m0)
 have hl_f_Kind:=hz0.1
 have hl_f_Fields:=hz0.2
 clear hp hb
 rw[Zv104 f]
 simp only[factOk]
 refine if_cond (fun h=>Lf_b ?_) (fun h=>Lf_b ?_)<;>grind
def Zh104:HH:=⟨_,Zo104⟩
def Zk117:Con UU where
 α:=DFact
 md:=[.ro]
 of:=o1 (oA .eFact)
 ds:=fun x=>[dA .eFact x]
 pre:=fun _=>[]
 res:=fun f=>⟨[.one (.lit (.bool (factOk f)))],true,[]⟩
 law:=l1 (lA .eFact)
def Zi117_4(f:DFact):Int×Unit→Prop:=fun(i,_)=>0≤i∧i≤f.Fields.length∧f.Fields.length≤5∧nameOk f.Kind=true∧(f.Fields.drop i.toNat).all valOk=f.Fields.all valOk
def Zm117_4(f:DFact):Int×Unit→Nat:=fun(i,_)=>f.Fields.length-i.toNat
def Za117:Zk117.α→Nat→Option (Ann UU):=fun f=>annL [(4,annOf [.slot 18 (18,1024) (.lit (.int .i64))] (fun _=>Zi117_4 f) (Zm117_4 f))]
def Zu117:=us [Zh76,Zh182]
theorem Zv117(f:DFact):goal EE Zu117 Go.Proofs.Tryz.f117 Zk117 Za117 f=(let x0:Int:=(f.Fields.length:Int);
bif !nameOk f.Kind then Lf [DV.one (Cell.lit (Value.bool false))] [DV.one (Cell.lit (Value.bool (factOk f)))] else bif decide (x0>(5:Int)) then Lf [DV.one (Cell.lit (Value.bool false))] [DV.one (Cell.lit (Value.bool (factOk f)))] else Zi117_4 f ((0:Int),PUnit.unit)∧∀(y:Int×PUnit),Zi117_4 f y→bif decide (y.1<x0) then(0:Int)≤y.1∧Int.toNat y.1<List.length f.Fields∧bif !valOk (List.getD f.Fields (Int.toNat y.1) zVal) then Lf [DV.one (Cell.lit (Value.bool false))] [DV.one (Cell.lit (Value.bool (factOk f)))] else Zi117_4 f (IntKind.wrap IntKind.i64 (y.1+(1:Int)),PUnit.unit)∧Zm117_4 f (IntKind.wrap IntKind.i64 (y.1+(1:Int)),PUnit.unit)<Zm117_4 f y else Lf [DV.one (Cell.lit (Value.bool true))] [DV.one (Cell.lit (Value.bool (factOk f)))]):=by kernel_rfl
theorem Zo117:Holds EE (117,Zk117):=by
 refine holds_of EE_ok Go.Proofs.Tryz.func117 Zk117 (by kernel_rfl) Zu117 (us_ok _) Za117 (fun(f:DFact) hp hb=> ?_)
 have hz0:=bd_eFact (x:=f) (hb _ m0)
 have hl_f_Kind:=hz0.1
 have hl_f_Fields:=hz0.2
 clear hp hb
 rw[Zv117 f]
 dsimp only
 refine if_cond (fun h=>Lf_b ?_) (fun h=>if_cond (fun h'=>Lf_b ?_) (fun h'=>⟨⟨by omega,by omega,by simp at h';omega,by simpa using h,rfl⟩,?_⟩))
 ·simp only[factOk];grind
 ·simp only[factOk];grind
 rintro⟨i,⟨⟩⟩ ⟨h1,h2,h3,h4,hR⟩
 simp only
 refine if_cond (fun hc=> ?_) (fun hc=> ?_)
 ·have hc:=of_decide_eq_true hc
  rw[all_step _ _ zVal h1 (by omega)] at hR
  rw[wrap_i64 (by omega) (by omega)]
  refine⟨by omega,by omega,if_cond (fun h=>Lf_ff ?_) (fun h=>⟨⟨by omega,by omega,by omega,h4,?_⟩,?_⟩)⟩
  ·simp only[factOk];rw[←hR];simp at h;simp[h]
  ·rw[←hR];simp at h;simp[h]
  ·simp only[Zm117_4];omega
 ·have hc:=of_decide_eq_false hc
  rw[drop_end _ (by omega)] at hR
  refine Lf_b ?_
  simp only[factOk,←hR,h4];simp;omega
def Zh117:HH:=⟨_,Zo117⟩
def Zk94:Con UU where
 α:=Int
 md:=[.ro]
 of:=o1 oI
 ds:=fun x=>[dI x]
 pre:=fun k=>[k≤4611686018427387903]
 res:=fun k=>⟨[.one (.lit (.string (markText k)))],true,[]⟩
 law:=l1 lI
def Zi94_4(k:Int):Int×ByteArray×Unit→Prop:=fun(j,out,_)=>0≤j∧j≤k∧(∃l d,out=⟨l.toArray⟩∧j.toNat≤d∧mtl d j.toNat l=mtl k.toNat k.toNat []∧l.length≤k-j)
def Zm94_4(k:Int):Int×ByteArray×Unit→Nat:=fun(j,out,_)=>j.toNat
def Za94:Zk94.α→Nat→Option (Ann UU):=fun k=>annL [(4,annOf [.slot 0 (0,1024) (.lit (.int .i64)),.slot 3 (3,1024) (.lit .str)] (fun _=>Zi94_4 k) (Zm94_4 k))]
def Zu94:List (FuncId×Con UU):=[]
theorem Zv94(k:Int):goal EE Zu94 Go.Proofs.Tryz.f94 Zk94 Za94 k=(bif decide (k≤(0:Int)) then Lf [DV.one (Cell.lit (Value.string {data:= #[(109:UInt8),(48:UInt8)]:ByteArray}))] [DV.one (Cell.lit (Value.string (markText k)))]
else
 Zi94_4 k (k,{data:= #[]:ByteArray},PUnit.unit)∧
  ∀(y:Int×ByteArray×PUnit),
   let x0:Nat:=ByteArray.size y.2.1;
   let x1:ByteArray:=strOfNums (List.map (fun(x:Cd.T Cd.byte)=>x) [IntKind.wrap IntKind.u8 (IntKind.wrap IntKind.i64 ((48:Int)+Int.tmod y.1 (10:Int)))]);
   Zi94_4 k y→bif decide (y.1>(0:Int)) then(10:Int)≠(0:Int)∧ByteArray.size x1+x0≤(4611686018427387904:Nat)∧(10:Int)≠(0:Int)∧Zi94_4 k (IntKind.wrap IntKind.i64 (Int.tdiv y.1 (10:Int)),x1++y.2.1,PUnit.unit)∧Zm94_4 k (IntKind.wrap IntKind.i64 (Int.tdiv y.1 (10:Int)),x1++y.2.1,PUnit.unit)<Zm94_4 k y else ByteArray.size {data:= #[(109:UInt8)]:ByteArray}+x0≤(4611686018427387904:Nat)∧Lf [DV.one (Cell.lit (Value.string ({data:= #[(109:UInt8)]:ByteArray}++y.2.1)))] [DV.one (Cell.lit (Value.string (markText k)))]):=by kernel_rfl
theorem Zo94:Holds EE (94,Zk94):=by
 refine holds_of EE_ok Go.Proofs.Tryz.func94 Zk94 (by kernel_rfl) Zu94 all_nil Za94 (fun(k:Int) hp hb=> ?_)
 have hl_k:=bdI (n:=k) (hb _ m0)
 have hp0:k≤4611686018427387903:=hp _ m0
 clear hp hb
 rw[Zv94 k]
 dsimp only
 refine if_cond (fun h=>Lf_s ?_) (fun h=> ?_)
 ·have h:=of_decide_eq_true h;simp only[markText];rw[if_pos h]
 have h0:=of_decide_eq_false h
 refine⟨⟨by omega,by omega,[],k.toNat,rfl,Nat.le_refl _,rfl,by simp⟩,?_⟩
 rintro⟨j,out,⟨⟩⟩ ⟨h1,h2,l,d,rfl,hd,hm,hl⟩
 simp only
 have hz:∀l:List UInt8,(ByteArray.mk l.toArray).size=l.length:=fun l=>by simp[ByteArray.size]
 refine if_cond (fun h=> ?_) (fun h=> ?_)
 ·have h:=of_decide_eq_true h
  have ht:Int.tmod j 10=j%10:=Int.tmod_eq_emod_of_nonneg h1
  have hq:Int.tdiv j 10=j/10:=Int.tdiv_eq_ediv_of_nonneg h1
  have hu:IntKind.wrap .u8 (48+j%10)=48+j%10:=by simp only[IntKind.wrap];simp[IntKind.bits,IntKind.signed];omega
  rw[ht,hq,wrap_i64 (by omega) (by omega),wrap_i64 (by omega) (by omega),hu]
  have hs:∀l:List UInt8,strOfNums (List.map (fun(x:Int)=>x) [48+j%10])++(⟨l.toArray⟩:ByteArray)=⟨((UInt8.ofNat (48+j.toNat%10))::l).toArray⟩:=fun l=>by
   have e:(48+j%10).toNat=48+j.toNat%10:=by omega
   simp only[strOfNums,List.map_cons,List.map_nil,e]
   apply ByteArray.ext
   simp
  have hs1:(strOfNums (List.map (fun(x:Int)=>x) [48+j%10])).size=1:=rfl
  refine⟨by omega,by erw[hs1];rw[hz];omega,by omega,⟨by omega,by omega,_,d-1,hs l,by omega,?_,by simp only[List.length_cons];omega⟩,by simp only[Zm94_4];omega⟩
  rw[←hm]
  obtain⟨d,rfl⟩:∃e,d=e+1:=⟨d-1,by omega⟩
  have e:(j/10).toNat=j.toNat/10:=by omega
  rw[e]
  simp only[Nat.add_sub_cancel,mtl]
  rw[if_neg (by omega)]
 ·have h:=of_decide_eq_false h
  have hj:j.toNat=0:=by omega
  rw[hj,mtl_zero] at hm
  refine⟨by rw[hz];simp[ByteArray.size];omega,Lf_s ?_⟩
  simp only[markText]
  rw[if_neg h0,←hm]
  apply ByteArray.ext
  simp
def Zh94:HH:=⟨_,Zo94⟩
def Zk80:Con UU where
 α:=(List Int)×Int
 md:=[.ro,.ro]
 of:=oC (oL .int) (o1 oI)
 ds:=fun x=>[dL .int x.1,dI x.2]
 pre:=fun(a,left)=>[0≤left]
 res:=fun(a,left)=>⟨[.one (.lit (.int .i64 (szr left (sizeIntS a))))],true,[]⟩
 law:=lC (lL .int) (l1 lI)
def Za80:Zk80.α→Nat→Option (Ann UU):=fun(a,left)=>annL []
def Zu80:List (FuncId×Con UU):=[]
theorem Zv80(a:(List Int))(left:Int):goal EE Zu80 Go.Proofs.Tryz.f80 Zk80 Za80 (a,left)=(let x0:Int:=IntKind.wrap IntKind.i64 (left-(a.length:Int));
bif decide (x0<(0:Int)) then Lf [DV.one (Cell.lit (Value.int IntKind.i64 (-1:Int)))] [DV.one (Cell.lit (Value.int IntKind.i64 (szr left (sizeIntS a))))] else Lf [DV.one (Cell.lit (Value.int IntKind.i64 x0))] [DV.one (Cell.lit (Value.int IntKind.i64 (szr left (sizeIntS a))))]):=by kernel_rfl
theorem Zo80:Holds EE (80,Zk80):=by
 refine holds_of EE_ok Go.Proofs.Tryz.func80 Zk80 (by kernel_rfl) Zu80 all_nil Za80 (fun x hp hb=> ?_)
 obtain⟨a,left⟩:=x
 have hl_a:a.length≤9223372036854775807:=bdL (hb _ m0)
 have hl_left:=bdI (n:=left) (hb _ m1)
 have hp0:0≤left:=hp _ m0
 clear hp hb
 rw[Zv80 a left]
 dsimp only
 rw[wrap_i64 (by omega) (by omega)]
 refine if_cond (fun h=>Lf_i (szr_bad' ?_)) (fun h=> ?_)
 ·have h:=of_decide_eq_true h;simp only[sizeIntS];omega
 have h:=of_decide_eq_false h
 exact Lf_i (by rw[←szr_ok' (by simp only[sizeIntS];omega)];simp only[sizeIntS])
def Zh80:HH:=⟨_,Zo80⟩
def Zk85:Con UU where
 α:=(List Int)
 md:=[.ro]
 of:=o1 (oL .int)
 ds:=fun x=>[dL .int x]
 pre:=fun a=>[sizeIntS a≤4294967296]
 res:=fun a=>⟨[.one (.sl .int a)],true,[]⟩
 law:=l1 (lL .int)
def Zi85_3(a:(List Int)):List Int×Int×Unit→Prop:=fun(out,i,_)=>0≤i∧i≤a.length∧out=a.take i.toNat++List.replicate (a.length-i.toNat) (0:Int)
def Zm85_3(a:(List Int)):List Int×Int×Unit→Nat:=fun(out,i,_)=>a.length-i.toNat
def Za85:Zk85.α→Nat→Option (Ann UU):=fun a=>annL [(3,annOf [.slot 3 (3,1024) (.own .int true),.slot 4 (4,1024) (.lit (.int .i64))] (fun _=>Zi85_3 a) (Zm85_3 a))]
def Zu85:List (FuncId×Con UU):=[]
theorem Zv85(a:(List Int)):goal EE Zu85 Go.Proofs.Tryz.f85 Zk85 Za85 a=(let x0:Int:=(a.length:Int);
(0:Int)≤x0∧
 x0=x0∧
  x0≤(4294967296:Int)∧
   Zi85_3 a (List.replicate (Int.toNat x0) (0:Int),(0:Int),PUnit.unit)∧
    ∀(y:List Int×Int×PUnit),
     let x1:Nat:=Int.toNat y.2.1;
     Zi85_3 a y→bif decide (y.2.1<x0) then(0:Int)≤y.2.1∧x1<List.length a∧(0:Int)≤y.2.1∧x1<List.length y.1∧x1<List.length y.1∧Zi85_3 a (List.set y.1 x1 (List.getD a x1 (0:Int)),IntKind.wrap IntKind.i64 (y.2.1+(1:Int)),PUnit.unit)∧Zm85_3 a (List.set y.1 x1 (List.getD a x1 (0:Int)),IntKind.wrap IntKind.i64 (y.2.1+(1:Int)),PUnit.unit)<Zm85_3 a y else Lf [DV.one (Cell.sl Cd.int y.1)] [DV.one (Cell.sl Cd.int a)]):=by kernel_rfl
theorem Zo85:Holds EE (85,Zk85):=by
 refine holds_of EE_ok Go.Proofs.Tryz.func85 Zk85 (by kernel_rfl) Zu85 all_nil Za85 (fun(a:(List Int)) hp hb=> ?_)
 have hl_a:a.length≤9223372036854775807:=bdL (hb _ m0)
 have hp0:sizeIntS a≤4294967296:=hp _ m0
 clear hp hb
 rw[Zv85 a]
 dsimp only
 have hlen:a.length≤4294967296:=by simp only[sizeIntS] at hp0;omega
 refine⟨by omega,rfl,by omega,?_,?_⟩
 ·simp[Zi85_3]
 rintro⟨out,i,⟨⟩⟩ ⟨h1,h2,rfl⟩
 simp only at*
 refine if_cond (fun hc=> ?_) (fun hc=> ?_)
 ·have hc:i<a.length:=by simpa using hc
  rw[wrap_i64 (by omega) (by omega),set_fill a (0:Int) h1 hc]
  exact⟨h1,by omega,h1,by simp;omega,by simp;omega,⟨by omega,by omega,rfl⟩,by simp only[Zm85_3];omega⟩
 ·have hc:a.length≤i:=by simpa using hc
  have e:i.toNat=a.length:=by omega
  rw[e];simp;exact Lf_rfl _
def Zh85:HH:=⟨_,Zo85⟩
def Zk89:Con UU where
 α:=(List Int)×(List Int)
 md:=[.ro,.ro]
 of:=oC (oL .int) (o1 (oL .int))
 ds:=fun x=>[dL .int x.1,dL .int x.2]
 pre:=fun _=>[]
 res:=fun(a,b)=>⟨[.one (.lit (.bool (decide (a=b))))],true,[]⟩
 law:=lC (lL .int) (l1 (lL .int))
def Zi89_4(a:(List Int))(b:(List Int)):Int×Unit→Prop:=fun(i,_)=>0≤i∧i≤a.length∧a.length=b.length∧(a.drop i.toNat=b.drop i.toNat↔a=b)
def Zm89_4(a:(List Int))(b:(List Int)):Int×Unit→Nat:=fun(i,_)=>a.length-i.toNat
def Za89:Zk89.α→Nat→Option (Ann UU):=fun(a,b)=>annL [(4,annOf [.slot 5 (5,1024) (.lit (.int .i64))] (fun _=>Zi89_4 a b) (Zm89_4 a b))]
def Zu89:List (FuncId×Con UU):=[]
theorem Zv89(a:(List Int))(b:(List Int)):goal EE Zu89 Go.Proofs.Tryz.f89 Zk89 Za89 (a,b)=(bif (a.length:Int) !=(b.length:Int) then Lb false (decide (a=b)) else Zi89_4 a b ((0:Int),())∧∀(y:Int×PUnit),Zi89_4 a b y→bif decide (y.1<(a.length:Int)) then(0:Int)≤y.1∧y.1.toNat<a.length∧(0:Int)≤y.1∧y.1.toNat<b.length∧bif List.getD a y.1.toNat (0:Int) !=List.getD b y.1.toNat (0:Int) then Lb false (decide (a=b)) else Zi89_4 a b (IntKind.wrap IntKind.i64 (y.1+(1:Int)),())∧Zm89_4 a b (IntKind.wrap IntKind.i64 (y.1+(1:Int)),())<Zm89_4 a b y else Lb true (decide (a=b))):=by kernel_rfl
theorem Zo89:Holds EE (89,Zk89):=by
 refine holds_of EE_ok Go.Proofs.Tryz.func89 Zk89 (by kernel_rfl) Zu89 all_nil Za89 (fun x hp hb=> ?_)
 obtain⟨a,b⟩:=x
 have hl_a:a.length≤9223372036854775807:=bdL (hb _ m0)
 have hl_b:b.length≤9223372036854775807:=bdL (hb _ m1)
 clear hp hb
 rw[Zv89 a b]
 refine if_cond (fun h=>Lf_f ?_) (fun h=>⟨?_,?_⟩)
 ·rintro rfl;simp at h
 ·simp[Zi89_4] at*;omega
 rintro⟨i,⟨⟩⟩ ⟨h1,h2,h3,hR⟩
 simp only at*
 refine if_cond (fun hc=> ?_) (fun hc=> ?_)
 ·have hc:i<a.length:=by simpa using hc
  rw[drop_step a (0:Int) h1 hc,drop_step b (0:Int) h1 (by omega)] at hR
  rw[wrap_i64 (by omega) (by omega)]
  refine⟨by omega,by omega,by omega,by omega,if_cond (fun h=>Lf_f ?_) (fun h=>⟨⟨by omega,by omega,h3,?_⟩,?_⟩)⟩
  ·rw[←hR];simp at h;simp[h]
  ·rw[←hR];simp at h;simp[h]
  ·simp only[Zm89_4];omega
 ·have hc:a.length≤i:=by simpa using hc
  rw[drop_end a hc,drop_end b (by omega)] at hR
  exact Lf_t (hR.1 rfl)
def Zh89:HH:=⟨_,Zo89⟩
def Zk92:Con UU where
 α:=(List Int)×Int
 md:=[.wr,.ro]
 of:=oC (oL .int) (o1 oI)
 ds:=fun x=>[dL .int x.1,dI x.2]
 pre:=fun(a,k)=>[0≤k,k+cntIntS a≤4611686018427387904]
 res:=fun(a,k)=>⟨[.one (.lit (.int .i64 (k+cntIntS a)))],true,[.one (.sl .int (markIntS a k))]⟩
 law:=lC (lL .int) (l1 lI)
def Zi92_2(a:(List Int))(k:Int):List Int×Int×Int×Unit→Prop:=fun(row,kk,i,_)=>0≤i∧i≤a.length∧row=(mkS (fun _ k=>k) (fun _=>1) a k).take i.toNat++a.drop i.toNat∧kk=k+ctS (fun _=>1) (a.take i.toNat)
def Zm92_2(a:(List Int))(k:Int):List Int×Int×Int×Unit→Nat:=fun(row,kk,i,_)=>a.length-i.toNat
def Za92:Zk92.α→Nat→Option (Ann UU):=fun(a,k)=>annL [(2,annOf [.slot 0 (2000000,0) (.own .int true),.slot 1 (1,1024) (.lit (.int .i64)),.slot 5 (5,1024) (.lit (.int .i64))] (fun _=>Zi92_2 a k) (Zm92_2 a k))]
def Zu92:List (FuncId×Con UU):=[]
theorem Zv92(a:(List Int))(k:Int):goal EE Zu92 Go.Proofs.Tryz.f92 Zk92 Za92 (a,k)=(Zi92_2 a k (a,k,(0:Int),())∧
 ∀(y:List Int×Int×Int×PUnit),
  let x0:Nat:=Int.toNat y.2.2.1;
  Zi92_2 a k y→bif decide (y.2.2.1<(↑(List.length y.1):Int)) then(0:Int)≤y.2.2.1∧x0<List.length y.1∧x0<List.length y.1∧Zi92_2 a k (List.set y.1 x0 y.2.1,IntKind.wrap IntKind.i64 (y.2.1+(1:Int)),IntKind.wrap IntKind.i64 (y.2.2.1+(1:Int)),PUnit.unit)∧Zm92_2 a k (List.set y.1 x0 y.2.1,IntKind.wrap IntKind.i64 (y.2.1+(1:Int)),IntKind.wrap IntKind.i64 (y.2.2.1+(1:Int)),PUnit.unit)<Zm92_2 a k y else asD [DV.one (Cell.lit (Value.int IntKind.i64 y.2.1))]=asD [DV.one (Cell.lit (Value.int IntKind.i64 (k+(↑(cntIntS a):Int))))]∧asD [DV.one (Cell.sl Cd.int y.1)]=asD [DV.one (Cell.sl Cd.int (markIntS a k))]):=by kernel_rfl
theorem Zo92:Holds EE (92,Zk92):=by
 refine holds_of EE_ok Go.Proofs.Tryz.func92 Zk92 (by kernel_rfl) Zu92 all_nil Za92 (fun x hp hb=> ?_)
 obtain⟨a,k⟩:=x
 have hl_a:a.length≤9223372036854775807:=bdL (hb _ m0)
 have hl_k:=bdI (n:=k) (hb _ m1)
 have hp0:0≤k:=hp _ m0
 have hp1:k+cntIntS a≤4611686018427387904:=hp _ m1
 clear hp hb
 rw[Zv92 a k]
 dsimp only
 refine⟨⟨by omega,by omega,by simp,by simp[ctS]⟩,?_⟩
 rintro⟨row,kk,i,⟨⟩⟩ ⟨h1,h2,rfl,rfl⟩
 simp only
 have hl:=mk_rl (fun _ k=>k) (fun _=>1) a k h1 h2
 refine if_cond (fun hc=> ?_) (fun hc=> ?_)
 ·have hc:i<a.length:=by have hc:=of_decide_eq_true hc;omega
  have hct:=ctS_take (fun _=>1) a (0:Int) h1 hc
  have hle:=ctS_take_le (fun _=>1) a (i+1).toNat
  have hg:=mk_getD _ a (0:Int) (mk_tl (fun _ k=>k) (fun _=>1) a k h1 h2) h1 hc
  have hM:=mkS_step (fun _ k=>k) (fun _=>1) a (0:Int) k h1 hc
  have hq:(cntIntS a:Int)=ctS (fun _=>1) a:=rfl
  generalize List.getD a i.toNat (0:Int)=x at*
  generalize hkk:k+(ctS (fun _=>1) (a.take i.toNat):Int)=kk at*
  generalize List.take i.toNat (mkS (fun _ k=>k) (fun _=>1) a k)++List.drop i.toNat a=R at*
  simp(disch:=first|omega|(simp only[List.length_modify];omega)) only[List.length_modify,wrap_i64,getD_modify,modify_modify,hg,hl]
  repeat' (first|refine And.intro (by omega) ?_|fail)
  exact⟨⟨by omega,by omega,hM,by omega⟩,by simp only[Zm92_2];omega⟩
 ·have hc:a.length≤i:=by have hc:=of_decide_eq_false hc;omega
  rw[mk_done (fun _ k=>k) (fun _=>1) a k hc,ct_done (fun _=>1) a hc]
  exact⟨rfl,rfl⟩
def Zh92:HH:=⟨_,Zo92⟩
def Zk158:Con UU where
 α:=DVal×Int
 md:=[.ro,.ro]
 of:=oC (oA .lVal) (o1 oI)
 ds:=fun x=>[dA .lVal x.1,dI x.2]
 pre:=fun(a,left)=>[0≤left]
 res:=fun(a,left)=>⟨[.one (.lit (.int .i64 (szr left (sizeVal a))))],true,[]⟩
 law:=lC (lA .lVal) (l1 lI)
def Za158:Zk158.α→Nat→Option (Ann UU):=fun(a,left)=>annL []
def Zu158:List (FuncId×Con UU):=[]
theorem Zv158(a:DVal)(left:Int):goal EE Zu158 Go.Proofs.Tryz.f158 Zk158 Za158 (a,left)=(let x0:Int:=IntKind.wrap IntKind.i64 (left-(↑(ByteArray.size a.S):Int));
bif decide (x0<(0:Int)) then Lf [DV.one (Cell.lit (Value.int IntKind.i64 (-1:Int)))] [DV.one (Cell.lit (Value.int IntKind.i64 (szr left (sizeVal a))))] else Lf [DV.one (Cell.lit (Value.int IntKind.i64 x0))] [DV.one (Cell.lit (Value.int IntKind.i64 (szr left (sizeVal a))))]):=by kernel_rfl
theorem Zo158:Holds EE (158,Zk158):=by
 refine holds_of EE_ok Go.Proofs.Tryz.func158 Zk158 (by kernel_rfl) Zu158 all_nil Za158 (fun x hp hb=> ?_)
 obtain⟨a,left⟩:=x
 have hl_a_S:=bd_lVal (x:=a) (hb _ m0)
 have hl_left:=bdI (n:=left) (hb _ m1)
 have hp0:0≤left:=hp _ m0
 clear hp hb
 rw[Zv158 a left]
 dsimp only
 rw[wrap_i64 (by omega) (by omega)]
 refine if_cond (fun h=>Lf_i (szr_bad' ?_)) (fun h=> ?_)
 ·have h:=of_decide_eq_true h;simp only[sizeVal];omega
 have h0:=of_decide_eq_false h
 exact Lf_i (by rw[←szr_ok' (by simp only[sizeVal];omega)];simp only[sizeVal];try omega)
def Zh158:HH:=⟨_,Zo158⟩
def Zk173:Con UU where
 α:=DVal
 md:=[.ro]
 of:=o1 (oA .lVal)
 ds:=fun x=>[dA .lVal x]
 pre:=fun a=>[sizeVal a≤4294967296]
 res:=fun a=>⟨[.agg [.lit (.int .i64 a.K),.lit (.int .i64 a.N),.lit (.string a.S)]],true,[]⟩
 law:=l1 (lA .lVal)
def Za173:Zk173.α→Nat→Option (Ann UU):=fun a=>annL []
def Zu173:List (FuncId×Con UU):=[]
theorem Zv173(a:DVal):goal EE Zu173 Go.Proofs.Tryz.f173 Zk173 Za173 a=(Lf [DV.agg [Cell.lit (Value.int IntKind.i64 a.K),Cell.lit (Value.int IntKind.i64 a.N),Cell.lit (Value.string a.S)]] [DV.agg [Cell.lit (Value.int IntKind.i64 a.K),Cell.lit (Value.int IntKind.i64 a.N),Cell.lit (Value.string a.S)]]):=by kernel_rfl
theorem Zo173:Holds EE (173,Zk173):=by
 refine holds_of EE_ok Go.Proofs.Tryz.func173 Zk173 (by kernel_rfl) Zu173 all_nil Za173 (fun(a:DVal) hp hb=> ?_)
 have hl_a_S:=bd_lVal (x:=a) (hb _ m0)
 have hp0:sizeVal a≤4294967296:=hp _ m0
 clear hp hb
 rw[Zv173 a]
 simp only[sizeVal] at hp0
 repeat' (first|exact Lf_rfl _|(refine And.intro (by omega) ?_))
def Zh173:HH:=⟨_,Zo173⟩
def Zk193:Con UU where
 α:=DVal×DVal
 md:=[.ro,.ro]
 of:=oC (oA .eVal) (o1 (oA .eVal))
 ds:=fun x=>[dA .eVal x.1,dA .eVal x.2]
 pre:=fun _=>[]
 res:=fun(a,b)=>⟨[.one (.lit (.bool (decide (a=b))))],true,[]⟩
 law:=lC (lA .eVal) (l1 (lA .eVal))
def Za193:Zk193.α→Nat→Option (Ann UU):=fun(a,b)=>annL []
def Zu193:List (FuncId×Con UU):=[]
theorem Zv193(a:DVal)(b:DVal):goal EE Zu193 Go.Proofs.Tryz.f193 Zk193 Za193 (a,b)=(bif a.K !=b.K then Lb false (decide (a=b)) else bif a.N !=b.N then Lb false (decide (a=b)) else bif !ByteArray.toList a.S==ByteArray.toList b.S then Lb false (decide (a=b)) else Lb true (decide (a=b))):=by kernel_rfl
theorem Zo193:Holds EE (193,Zk193):=by
 refine holds_of EE_ok Go.Proofs.Tryz.func193 Zk193 (by kernel_rfl) Zu193 all_nil Za193 (fun x hp hb=> ?_)
 obtain⟨a,b⟩:=x
 have hl_a_S:=bd_eVal (x:=a) (hb _ m0)
 have hl_b_S:=bd_eVal (x:=b) (hb _ m1)
 clear hp hb
 rw[Zv193 a b]
 obtain⟨aK,aN,aS⟩:=a
 obtain⟨bK,bN,bS⟩:=b
 repeat' (apply if_cond<;>intro _)
 all_goals (first|apply Lf_t|apply Lf_f)<;>simp_all
def Zh193:HH:=⟨_,Zo193⟩
def Zk198:Con UU where
 α:=(List DVal)×(List DVal)
 md:=[.ro,.ro]
 of:=oC (oL .eVal) (o1 (oL .eVal))
 ds:=fun x=>[dL .eVal x.1,dL .eVal x.2]
 pre:=fun _=>[]
 res:=fun(a,b)=>⟨[.one (.lit (.bool (decide (a=b))))],true,[]⟩
 law:=lC (lL .eVal) (l1 (lL .eVal))
def Zi198_4(a:(List DVal))(b:(List DVal)):Int×Unit→Prop:=eqI a b
def Zm198_4(a:(List DVal))(b:(List DVal)):Int×Unit→Nat:=rM1 a
def Za198:Zk198.α→Nat→Option (Ann UU):=fun(a,b)=>annL [(4,annOf [.slot 5 (5,1024) (.lit (.int .i64))] (fun _=>Zi198_4 a b) (Zm198_4 a b))]
def Zu198:=us [Zh193]
theorem Zv198(a:(List DVal))(b:(List DVal)):goal EE Zu198 Go.Proofs.Tryz.f198 Zk198 Za198 (a,b)=(eqV zVal a b):=by kernel_rfl
theorem Zo198:Holds EE (198,Zk198):=by
 refine holds_of EE_ok Go.Proofs.Tryz.func198 Zk198 (by kernel_rfl) Zu198 (us_ok _) Za198 (fun x hp hb=> ?_)
 obtain⟨a,b⟩:=x
 have hl_a:a.length≤9223372036854775807:=bdL (hb _ m0)
 have hl_b:b.length≤9223372036854775807:=bdL (hb _ m1)
 clear hp hb
 rw[Zv198 a b]
 exact eqV_ok hl_a
def Zh198:HH:=⟨_,Zo198⟩
def Zk95:Con UU where
 α:=(List DVal)×Int
 md:=[.wr,.ro]
 of:=oC (oL .eVal) (o1 oI)
 ds:=fun x=>[dL .eVal x.1,dI x.2]
 pre:=fun(a,k)=>[0≤k,k+cntValS a≤4611686018427387904]
 res:=fun(a,k)=>⟨[.one (.lit (.int .i64 (k+cntValS a)))],true,[.one (.sl .eVal (markValS a k))]⟩
 law:=lC (lL .eVal) (l1 lI)
def Zi95_2(a:(List DVal))(k:Int):List DVal×Int×Int×Unit→Prop:=fun(row,kk,i,_)=>0≤i∧i≤a.length∧row=(mkS markVal cntVal a k).take i.toNat++a.drop i.toNat∧kk=k+ctS cntVal (a.take i.toNat)
def Zm95_2(a:(List DVal))(k:Int):List DVal×Int×Int×Unit→Nat:=fun(row,kk,i,_)=>a.length-i.toNat
def Za95:Zk95.α→Nat→Option (Ann UU):=fun(a,k)=>annL [(2,annOf [.slot 0 (2000000,0) (.own .eVal true),.slot 1 (1,1024) (.lit (.int .i64)),.slot 5 (5,1024) (.lit (.int .i64))] (fun _=>Zi95_2 a k) (Zm95_2 a k))]
def Zu95:=us [Zh94]
theorem Zv95(a:(List DVal))(k:Int):goal EE Zu95 Go.Proofs.Tryz.f95 Zk95 Za95 (a,k)=(Zi95_2 a k (a,k,(0:Int),())∧
 ∀(y:List DVal×Int×Int×PUnit),
  let x0:Nat:=Int.toNat y.2.2.1;
  let x3:Int:=IntKind.wrap IntKind.i64 (y.2.1+(1:Int));
  let x4:List DVal:=List.modify y.1 x0 fun(x:DVal)=>{K:=y.2.1,N:=x.N,S:=x.S:DVal};
  let x1:Int:=IntKind.wrap IntKind.i64 (x3+(1:Int));
  let x2:List DVal:=List.modify x4 x0 fun(x:DVal)=>{K:=x.K,N:=x3,S:=x.S:DVal};
  Zi95_2 a k y→bif decide (y.2.2.1<(↑(List.length y.1):Int)) then(0:Int)≤y.2.2.1∧x0<List.length y.1∧x0<List.length y.1∧(0:Int)≤y.2.2.1∧x0<List.length x4∧x0<List.length x4∧x1≤(4611686018427387903:Int)∧(0:Int)≤y.2.2.1∧x0<List.length x2∧x0<List.length x2∧Zi95_2 a k (List.modify x2 x0 fun(x:DVal)=>{K:=x.K,N:=x.N,S:=markText x1:DVal},IntKind.wrap IntKind.i64 (x1+(1:Int)),IntKind.wrap IntKind.i64 (y.2.2.1+(1:Int)),PUnit.unit)∧Zm95_2 a k (List.modify x2 x0 fun(x:DVal)=>{K:=x.K,N:=x.N,S:=markText x1:DVal},IntKind.wrap IntKind.i64 (x1+(1:Int)),IntKind.wrap IntKind.i64 (y.2.2.1+(1:Int)),PUnit.unit)<Zm95_2 a k y else asD [DV.one (Cell.lit (Value.int IntKind.i64 y.2.1))]=asD [DV.one (Cell.lit (Value.int IntKind.i64 (k+(↑(cntValS a):Int))))]∧asD [DV.one (Cell.sl Cd.eVal y.1)]=asD [DV.one (Cell.sl Cd.eVal (markValS a k))]):=by kernel_rfl
theorem Zo95:Holds EE (95,Zk95):=by
 refine holds_of EE_ok Go.Proofs.Tryz.func95 Zk95 (by kernel_rfl) Zu95 (us_ok _) Za95 (fun x hp hb=> ?_)
 obtain⟨a,k⟩:=x
 have hl_a:a.length≤9223372036854775807:=bdL (hb _ m0)
 have hl_k:=bdI (n:=k) (hb _ m1)
 have hp0:0≤k:=hp _ m0
 have hp1:k+cntValS a≤4611686018427387904:=hp _ m1
 clear hp hb
 rw[Zv95 a k]
 dsimp only
 refine⟨⟨by omega,by omega,by simp,by simp[ctS]⟩,?_⟩
 rintro⟨row,kk,i,⟨⟩⟩ ⟨h1,h2,rfl,rfl⟩
 simp only
 have hl:=mk_rl markVal cntVal a k h1 h2
 refine if_cond (fun hc=> ?_) (fun hc=> ?_)
 ·have hc:i<a.length:=by have hc:=of_decide_eq_true hc;omega
  have hct:=ctS_take cntVal a zVal h1 hc
  have hle:=ctS_take_le cntVal a (i+1).toNat
  have hg:=mk_getD _ a zVal (mk_tl markVal cntVal a k h1 h2) h1 hc
  have hM:=fun F hF=>mkS_mod markVal cntVal a zVal k (i:=i) F h1 hc hF
  have hq:(cntValS a:Int)=ctS cntVal a:=rfl
  generalize List.getD a i.toNat zVal=x at*
  generalize hkk:k+(ctS cntVal (a.take i.toNat):Int)=kk at*
  generalize List.take i.toNat (mkS markVal cntVal a k)++List.drop i.toNat a=R at*
  simp only[cntVal] at hct
  simp(disch:=first|omega|(simp only[List.length_modify];omega)) only[List.length_modify,wrap_i64,getD_modify,modify_modify,hg,hl]
  repeat' (first|refine And.intro (by omega) ?_|fail)
  exact⟨⟨by omega,by omega,hM _ (by first|rfl|(simp only[markVal,markBool];rw[Int.tmod_eq_emod_of_nonneg (by omega)];rfl)),by omega⟩,by simp only[Zm95_2];omega⟩
 ·have hc:a.length≤i:=by have hc:=of_decide_eq_false hc;omega
  rw[mk_done markVal cntVal a k hc,ct_done cntVal a hc]
  exact⟨rfl,rfl⟩
def Zh95:HH:=⟨_,Zo95⟩
def Zk96:Con UU where
 α:=(List DVal)×Int
 md:=[.ro,.ro]
 of:=oC (oL .eVal) (o1 oI)
 ds:=fun x=>[dL .eVal x.1,dI x.2]
 pre:=fun(a,k)=>[0≤k,k+cntValS a≤4611686018427387904]
 res:=fun(a,k)=>⟨[.one (.lit (.int .i64 (if markValS a k=a then k+cntValS a else-1)))],true,[]⟩
 law:=lC (lL .eVal) (l1 lI)
def Zi96_2(a:(List DVal))(k:Int):Int×Int×Unit→Prop:=fun(kk,i,_)=>0≤i∧i≤a.length∧kk=k+ctS cntVal (a.take i.toNat)∧(mkS markVal cntVal (a.drop i.toNat) kk=a.drop i.toNat↔mkS markVal cntVal a k=a)
def Zm96_2(a:(List DVal))(k:Int):Int×Int×Unit→Nat:=fun(kk,i,_)=>a.length-i.toNat
def Za96:Zk96.α→Nat→Option (Ann UU):=fun(a,k)=>annL [(2,annOf [.slot 1 (1,1024) (.lit (.int .i64)),.slot 5 (5,1024) (.lit (.int .i64))] (fun _=>Zi96_2 a k) (Zm96_2 a k))]
def Zu96:=us [Zh94]
theorem Zv96(a:(List DVal))(k:Int):goal EE Zu96 Go.Proofs.Tryz.f96 Zk96 Za96 (a,k)=(Zi96_2 a k (k,(0:Int),())∧
 ∀(y:Int×Int×PUnit),
  let x1:Nat:=Int.toNat y.2.1;
  let x2:Int:=IntKind.wrap IntKind.i64 (IntKind.wrap IntKind.i64 (y.1+(1:Int))+(1:Int));
  let x0:DVal:=List.getD a x1 zVal;
  Zi96_2 a k y→bif decide (y.2.1<(↑(List.length a):Int)) then(0:Int)≤y.2.1∧x1<List.length a∧bif x0.K !=y.1 then Lf [DV.one (Cell.lit (Value.int IntKind.i64 (-1:Int)))] [DV.one (Cell.lit (Value.int IntKind.i64 (if markValS a k=a then k+(↑(cntValS a):Int) else(-1:Int))))] else(0:Int)≤y.2.1∧x1<List.length a∧bif x0.N !=IntKind.wrap IntKind.i64 (y.1+(1:Int)) then Lf [DV.one (Cell.lit (Value.int IntKind.i64 (-1:Int)))] [DV.one (Cell.lit (Value.int IntKind.i64 (if markValS a k=a then k+(↑(cntValS a):Int) else(-1:Int))))] else(0:Int)≤y.2.1∧x1<List.length a∧x2≤(4611686018427387903:Int)∧bif !ByteArray.toList x0.S==ByteArray.toList (markText x2) then Lf [DV.one (Cell.lit (Value.int IntKind.i64 (-1:Int)))] [DV.one (Cell.lit (Value.int IntKind.i64 (if markValS a k=a then k+(↑(cntValS a):Int) else(-1:Int))))] else Zi96_2 a k (IntKind.wrap IntKind.i64 (x2+(1:Int)),IntKind.wrap IntKind.i64 (y.2.1+(1:Int)),PUnit.unit)∧Zm96_2 a k (IntKind.wrap IntKind.i64 (x2+(1:Int)),IntKind.wrap IntKind.i64 (y.2.1+(1:Int)),PUnit.unit)<Zm96_2 a k y else Lf [DV.one (Cell.lit (Value.int IntKind.i64 y.1))] [DV.one (Cell.lit (Value.int IntKind.i64 (if markValS a k=a then k+(↑(cntValS a):Int) else(-1:Int))))]):=by kernel_rfl
theorem Zo96:Holds EE (96,Zk96):=by
 refine holds_of EE_ok Go.Proofs.Tryz.func96 Zk96 (by kernel_rfl) Zu96 (us_ok _) Za96 (fun x hp hb=> ?_)
 obtain⟨a,k⟩:=x
 have hl_a:a.length≤9223372036854775807:=bdL (hb _ m0)
 have hl_k:=bdI (n:=k) (hb _ m1)
 have hp0:0≤k:=hp _ m0
 have hp1:k+cntValS a≤4611686018427387904:=hp _ m1
 clear hp hb
 rw[Zv96 a k]
 dsimp only
 refine⟨⟨by omega,by omega,by simp[ctS],by simp⟩,?_⟩
 rintro⟨kk,i,⟨⟩⟩ ⟨h1,h2,hkk,hR⟩
 simp only
 simp only[markValS]
 refine if_cond (fun hc=> ?_) (fun hc=> ?_)
 ·have hc:i<a.length:=by have hc:=of_decide_eq_true hc;omega
  have hct:=ctS_take cntVal a zVal h1 hc
  have hle:=ctS_take_le cntVal a (i+1).toNat
  have hq:(cntValS a:Int)=ctS cntVal a:=rfl
  rw[drop_step a zVal h1 hc] at hR
  generalize List.getD a i.toNat zVal=x at*
  simp only[mkS,List.cons.injEq] at hR
  have e:kk+(cntVal x:Int)=kk+1+1+1:=by first|(simp only[cntVal];done)|(simp only[cntVal];omega)
  rw[e] at hR
  simp only[markVal,cntVal] at hR hct
  simp(disch:=omega) only[wrap_i64,bne_int,toList_beq]
  obtain⟨x_K,x_N,x_S⟩:=x
  simp only[DVal.mk.injEq] at*
  repeat' (first|refine And.intro (by omega) ?_|fail)
  refine if_cond (fun h=>Lf_no (fun hh=> ?_)) (fun h=> ?_)
  ·have hh:=hR.2 hh;simp_all
  have h:x_K=kk:=by simpa using h
  subst x_K
  repeat' (first|refine And.intro (by omega) ?_|fail)
  refine if_cond (fun h=>Lf_no (fun hh=> ?_)) (fun h=> ?_)
  ·have hh:=hR.2 hh;simp_all
  have h:x_N=kk+1:=by simpa using h
  subst x_N
  repeat' (first|refine And.intro (by omega) ?_|fail)
  refine if_cond (fun h=>Lf_no (fun hh=> ?_)) (fun h=> ?_)
  ·have hh:=hR.2 hh;simp_all
  have h:x_S=markText (kk+1+1):=by simpa using h
  subst x_S
  exact⟨⟨by omega,by omega,by omega,by simpa using hR⟩,by simp only[Zm96_2];omega⟩
 ·have hc:a.length≤i:=by have hc:=of_decide_eq_false hc;omega
  rw[drop_end a hc] at hR
  exact Lf_yes (hR.1 rfl) (by rw[hkk,ct_done _ _ hc];rfl)
def Zh96:HH:=⟨_,Zo96⟩
def Zk148:Con UU where
 α:=DFact×DFact
 md:=[.ro,.ro]
 of:=oC (oA .eFact) (o1 (oA .eFact))
 ds:=fun x=>[dA .eFact x.1,dA .eFact x.2]
 pre:=fun _=>[]
 res:=fun(a,b)=>⟨[.one (.lit (.bool (decide (a=b))))],true,[]⟩
 law:=lC (lA .eFact) (l1 (lA .eFact))
def Za148:Zk148.α→Nat→Option (Ann UU):=fun(a,b)=>annL []
def Zu148:=us [Zh198]
theorem Zv148(a:DFact)(b:DFact):goal EE Zu148 Go.Proofs.Tryz.f148 Zk148 Za148 (a,b)=(bif !ByteArray.toList a.Kind==ByteArray.toList b.Kind then Lb false (decide (a=b)) else bif !decide (a.Fields=b.Fields) then Lb false (decide (a=b)) else Lb true (decide (a=b))):=by kernel_rfl
theorem Zo148:Holds EE (148,Zk148):=by
 refine holds_of EE_ok Go.Proofs.Tryz.func148 Zk148 (by kernel_rfl) Zu148 (us_ok _) Za148 (fun x hp hb=> ?_)
 obtain⟨a,b⟩:=x
 have hz0:=bd_eFact (x:=a) (hb _ m0)
 have hl_a_Kind:=hz0.1
 have hl_a_Fields:=hz0.2
 have hz1:=bd_eFact (x:=b) (hb _ m1)
 have hl_b_Kind:=hz1.1
 have hl_b_Fields:=hz1.2
 clear hp hb
 rw[Zv148 a b]
 obtain⟨aKind,aFields⟩:=a
 obtain⟨bKind,bFields⟩:=b
 repeat' (apply if_cond<;>intro _)
 all_goals (first|apply Lf_t|apply Lf_f)<;>simp_all
def Zh148:HH:=⟨_,Zo148⟩
def allI(n:Nat)(p:Nat→Bool):Bool:=(List.range n).all p
theorem allI_true{n:Nat}{p:Nat→Bool}(h:∀j,j<n→p j=true):allI n p=true:=by simpa[allI] using h
theorem allI_false{n:Nat}{p:Nat→Bool}{j:Nat}(h:j<n)(hj:p j=false):allI n p=false:=by
 simp only[allI,List.all_eq_false,List.mem_range]
 exact⟨j,h,by simp[hj]⟩
theorem upto_step{i:Int}{p:Nat→Bool}(h0:0≤i)(h:∀j:Nat,(j:Int)<i→p j=true)(hi:p i.toNat=true):∀j:Nat,(j:Int)<i+1→p j=true:=by
 intro j hj
 by_cases hji:(j:Int)<i
 ·exact h j hji
 ·have:j=i.toNat:=by omega
  subst this;exact hi
def idxI(n:Nat)(p:Nat→Bool):Int:=match(List.range n).find? p with|some i=>i|none=> -1
def anyI(n:Nat)(p:Nat→Bool):Bool:=(List.range n).any p
theorem idxI_found{n i:Nat}{p:Nat→Bool}(h:i<n)(hp:p i=true)(hj:∀j,j<i→p j=false):idxI n p=i:=by
 have:(List.range n).find? p=some i:=by
  rw[List.find?_range_eq_some]
  exact⟨hp,List.mem_range.2 h,fun j hj'=>by simp[hj j hj']⟩
 simp[idxI,this]
theorem idxI_none{n:Nat}{p:Nat→Bool}(hj:∀j,j<n→p j=false):idxI n p= -1:=by
 have:(List.range n).find? p=none:=by
  rw[List.find?_eq_none]
  intro j hj'
  simp[hj j (List.mem_range.1 hj')]
 simp[idxI,this]
theorem idxI_cases(n:Nat)(p:Nat→Bool):(idxI n p= -1∧∀j,j<n→p j=false)∨∃i,i<n∧idxI n p=(i:Int)∧p i=true∧∀j,j<i→p j=false:=by
 cases h:(List.range n).find? p with
 |none=>
  refine .inl ⟨by simp[idxI,h],fun j hj=> ?_⟩
  have:=List.find?_eq_none.1 h j (List.mem_range.2 hj)
  simpa using this
 |some i=>
  rw[List.find?_range_eq_some] at h
  obtain⟨h1,h2,h3⟩:=h
  exact .inr ⟨i,List.mem_range.1 h2,idxI_found (List.mem_range.1 h2) h1 (fun j hj=>by simpa using h3 j hj),h1,fun j hj=>by simpa using h3 j hj⟩
theorem idxI_congr{n:Nat}{p q:Nat→Bool}(h:∀j,j<n→p j=q j):idxI n p=idxI n q:=by
 rcases idxI_cases n q with⟨h1,h2⟩|⟨i,h1,h2,h3,h4⟩
 ·rw[h1,idxI_none (fun j hj=>by rw[h j hj,h2 j hj])]
 ·rw[h2,idxI_found h1 (by rw[h i h1,h3]) (fun j hj=>by rw[h j (by omega),h4 j hj])]
theorem anyI_true{n j:Nat}{p:Nat→Bool}(h:j<n)(hp:p j=true):anyI n p=true:=by
 simp only[anyI,List.any_eq_true,List.mem_range]
 exact⟨j,h,hp⟩
theorem anyI_false{n:Nat}{p:Nat→Bool}(h:∀j,j<n→p j=false):anyI n p=false:=by
 simp only[anyI,List.any_eq_false,List.mem_range]
 exact fun j hj=>by simp[h j hj]
theorem idxI_ge{n:Nat}{p:Nat→Bool}:decide (0≤idxI n p)=anyI n p:=by
 rcases idxI_cases n p with⟨h1,h2⟩|⟨i,h1,h2,h3,h4⟩
 ·rw[h1,anyI_false h2];rfl
 ·rw[h2,anyI_true h1 h3];simp
theorem closP_of{k:Con UU}{caps:List (DV UU)}{ds:List (DA UU)}{x:k.α}{v:Value}(h:k.of (ds.map DA.dv++caps)=some x)(hv:(k.res x).val=[.one (.lit v)])(hm:(k.res x).muts=[])
  (hl:k.md.length=ds.length+caps.length) (hp:∀p∈k.pre x,p):closP k caps ds=some v:=by
 unfold closP
 simp only[h,hv,hm]
 rw[if_pos ⟨hl,hp⟩]
theorem val_beq(a b:DVal):(a.K==b.K&&(a.N==b.N&&(ByteArray.toList a.S==ByteArray.toList b.S&&true)))=decide (a=b):=by
 obtain⟨K,N,S⟩:=a
 obtain⟨K',N',S'⟩:=b
 simp only[toList_beq,Bool.and_true]
 rw[Bool.eq_iff_iff]
 simp only[Bool.and_eq_true,beq_iff_eq,decide_eq_true_eq,DVal.mk.injEq]
theorem upto_no{i:Int}{p:Nat→Bool}(h0:0≤i)(h:∀j:Nat,(j:Int)<i→p j=false)(hi:p i.toNat=false):∀j:Nat,(j:Int)<i+1→p j=false:=by
 intro j hj
 by_cases hji:(j:Int)<i
 ·exact h j hji
 ·have:j=i.toNat:=by omega
  subst this;exact hi
def undoOk(s:ByteArray):Bool:=decide (s=noBytes)||nameOk s
def Zk184:Con UU where
 α:=ByteArray
 md:=[.ro]
 of:=o1 oS
 ds:=fun x=>[dS x]
 pre:=fun _=>[]
 res:=fun s=>⟨[.one (.lit (.bool (undoOk s)))],true,[]⟩
 law:=l1 lS
def Za184:Zk184.α→Nat→Option (Ann UU):=fun s=>annL []
def Zu184:=us [Zh76]
theorem Zv184(s:ByteArray):goal EE Zu184 Go.Proofs.Tryz.f184 Zk184 Za184 s=(bif ByteArray.toList s==ByteArray.toList {data:= #[]:ByteArray} then Lb true (undoOk s) else Lb (nameOk s) (undoOk s)):=by kernel_rfl
theorem Zo184:Holds EE (184,Zk184):=by
 refine holds_of EE_ok Go.Proofs.Tryz.func184 Zk184 (by kernel_rfl) Zu184 (us_ok _) Za184 (fun(s:ByteArray) hp hb=> ?_)
 have hl_s:=bdS (s:=s) (hb _ m0)
 clear hp hb
 rw[Zv184 s]
 have e:(ByteArray.toList s==ByteArray.toList {data:= #[]})=decide (s=noBytes):=toList_beq _ _
 simp only[e,undoOk]
 refine if_cond (fun h=>Lf_b ?_) (fun h=>Lf_b ?_)<;>grind
def Zh184:HH:=⟨_,Zo184⟩
def largeB(b:Int):Bool:=decide (65≤b∧b≤90)
def varB(b:Int):Bool:=wordB b||largeB b
def varOk(s:ByteArray):Bool:=decide (1≤s.size∧s.size≤12)&&largeB (List.getD (bs s) 0 0).toNat&&(bs s).all (byteP varB)
def argOk(a:DArg):Bool:=bif decide (a.K=1) then varOk a.S&&decide (a.V=zVal) else bif decide (a.K=2) then valOk a.V&&decide (a.S=noBytes) else bif decide (a.K=3) then decide (a.S=noBytes)&&decide (a.V=zVal) else false
def termOk(a:DArg):Bool:=argOk a&& !decide (a.K=3)
def patOk(p:DPat):Bool:=nameOk p.Kind&&decide (p.Args.length≤5)&&p.Args.all argOk
def kondOk(c:DCond):Bool:=decide (1≤c.Op∧c.Op≤3)&&termOk c.L&&termOk c.R
def bPlus:ByteArray:=⟨#[43]⟩
def bMinus:ByteArray:=⟨#[45]⟩
def exprOk(e:DExpr):Bool:=bif decide (e.Op=noBytes) then termOk e.L&&decide (e.R=zArg) else bif decide (e.Op=bPlus)||decide (e.Op=bMinus) then termOk e.L&&termOk e.R else false
def exprsOk(l:List DExpr):Bool:=decide (l.length≤5)&&l.all exprOk
def bareA(a:DAct):Bool:=decide (a.Name=noBytes)&&decide (a.Args.length=0)&&decide (a.Undo=noBytes)
def actOk(a:DAct):Bool:=
 bif decide (a.Kind=1) then nameOk a.Name&&exprsOk a.Args&&decide (a.N=0)&&decide (a.Undo=noBytes)
 else bif decide (a.Kind=2) then bareA a&&decide (0≤a.N∧a.N≤7)
 else bif decide (a.Kind=3) then nameOk a.Name&&exprsOk a.Args&&decide (a.N=0)&&undoOk a.Undo
 else bif decide (a.Kind=4) then nameOk a.Name&&exprsOk a.Args&&decide (0≤a.N∧a.N≤100000)&&decide (a.Undo=noBytes)
 else bif decide (a.Kind=5)||decide (a.Kind=6) then bareA a&&decide (a.N=0) else false
theorem argR_beq(a b:DArg):(a.K==b.K&&(ByteArray.toList a.S==ByteArray.toList b.S&&(a.V.K==b.V.K&&(a.V.N==b.V.N&&(ByteArray.toList a.V.S==ByteArray.toList b.V.S&&true))&&true)))=decide (a=b):=by
 obtain⟨K,S,K2,N2,S2⟩:=a
 obtain⟨K',S',K2',N2',S2'⟩:=b
 simp only[toList_beq,Bool.and_true]
 rw[Bool.eq_iff_iff]
 simp only[Bool.and_eq_true,beq_iff_eq,decide_eq_true_eq,DArg.mk.injEq,DVal.mk.injEq]
def Zk261:Con UU where
 α:=Int
 md:=[.ro]
 of:=o1 oY
 ds:=fun x=>[dY x]
 pre:=fun _=>[]
 res:=fun b=>⟨[.one (.lit (.bool (largeB b)))],true,[]⟩
 law:=l1 lY
def Za261:Zk261.α→Nat→Option (Ann UU):=fun b=>annL []
def Zu261:List (FuncId×Con UU):=[]
theorem Zv261(b:Int):goal EE Zu261 Go.Proofs.Tryz.f261 Zk261 Za261 b=(bif decide (b≥(65:Int)) then Lb (decide (b≤(90:Int))) (largeB b) else Lb false (largeB b)):=by kernel_rfl
theorem Zo261:Holds EE (261,Zk261):=by
 refine holds_of EE_ok Go.Proofs.Tryz.func261 Zk261 (by kernel_rfl) Zu261 all_nil Za261 (fun(b:Int) hp hb=> ?_)
 skip
 clear hp hb
 rw[Zv261 b]
 refine if_cond (fun h=>Lf_b ?_) (fun h=>Lf_b ?_)<;>grind [largeB]
def Zh261:HH:=⟨_,Zo261⟩
def Zk259:Con UU where
 α:=Int
 md:=[.ro]
 of:=o1 oY
 ds:=fun x=>[dY x]
 pre:=fun c=>[0≤c∧c≤255]
 res:=fun c=>⟨[.one (.lit (.bool (largeB c)))],true,[]⟩
 law:=l1 lY
def Za259:Zk259.α→Nat→Option (Ann UU):=fun c=>annL []
def Zu259:=us [Zh40]
theorem Zv259(c:Int):goal EE Zu259 Go.Proofs.Tryz.f259 Zk259 Za259 c=(Lb (decide ((65:Int)≤IntKind.wrap IntKind.i64 c∧IntKind.wrap IntKind.i64 c≤(90:Int))) (largeB c)):=by kernel_rfl
theorem Zo259:Holds EE (259,Zk259):=by
 refine holds_of EE_ok Go.Proofs.Tryz.func259 Zk259 (by kernel_rfl) Zu259 (us_ok _) Za259 (fun(c:Int) hp hb=> ?_)
 have hp0:0≤c∧c≤255:=hp _ m0
 clear hp hb
 rw[Zv259 c]
 rw[wrap_i64 (by omega) (by omega)]
 exact Lf_b rfl
def Zh259:HH:=⟨_,Zo259⟩
def Zk251:Con UU where
 α:=ByteArray
 md:=[.ro]
 of:=o1 oS
 ds:=fun x=>[dS x]
 pre:=fun _=>[]
 res:=fun s=>⟨[.one (.lit (.bool (varOk s)))],true,[]⟩
 law:=l1 lS
def Zi251_2(s:ByteArray):Int×Unit→Prop:=fun(i,_)=>0≤i∧i≤s.size∧((bs s).drop i.toNat).all (byteP varB)=(bs s).all (byteP varB)∧(0<i→largeB (List.getD (bs s) 0 0).toNat=true)
def Zm251_2(s:ByteArray):Int×Unit→Nat:=fun(i,_)=>s.size-i.toNat
def Za251:Zk251.α→Nat→Option (Ann UU):=fun s=>annL [(2,annOf [.slot 3 (3,1024) (.lit (.int .i64))] (fun _=>Zi251_2 s) (Zm251_2 s))]
def Zu251:=us [Zh259,Zh134,Zh40]
theorem Zv251(s:ByteArray):goal EE Zu251 Go.Proofs.Tryz.f251 Zk251 Za251 s=(Zi251_2 s ((0:Int),())∧
 ∀(y:Int×PUnit),
  let x0:Int:=(↑(UInt8.toNat (List.getD s.data.toList (Int.toNat y.1) (0:UInt8))):Int);
  Zi251_2 s y→bif decide (y.1<(↑(ByteArray.size s):Int)) then(0:Int)≤y.1∧Int.toNat y.1<ByteArray.size s∧((0:Int)≤x0∧x0≤(255:Int))∧bif !largeB x0 then bif y.1==(0:Int) then Lf [DV.one (Cell.lit (Value.bool false))] [DV.one (Cell.lit (Value.bool (varOk s)))] else(0:Int)≤y.1∧Int.toNat y.1<ByteArray.size s∧((0:Int)≤x0∧x0≤(255:Int))∧bif !wordB x0 then Lf [DV.one (Cell.lit (Value.bool false))] [DV.one (Cell.lit (Value.bool (varOk s)))] else Zi251_2 s (IntKind.wrap IntKind.i64 (y.1+(1:Int)),PUnit.unit)∧Zm251_2 s (IntKind.wrap IntKind.i64 (y.1+(1:Int)),PUnit.unit)<Zm251_2 s y else Zi251_2 s (IntKind.wrap IntKind.i64 (y.1+(1:Int)),PUnit.unit)∧Zm251_2 s (IntKind.wrap IntKind.i64 (y.1+(1:Int)),PUnit.unit)<Zm251_2 s y else Lf [DV.one (Cell.lit (Value.bool (decide ((1:Int)≤(↑(ByteArray.size s):Int)∧(↑(ByteArray.size s):Int)≤(12:Int)))))] [DV.one (Cell.lit (Value.bool (varOk s)))]):=by kernel_rfl
theorem Zo251:Holds EE (251,Zk251):=by
 refine holds_of EE_ok Go.Proofs.Tryz.func251 Zk251 (by kernel_rfl) Zu251 (us_ok _) Za251 (fun(s:ByteArray) hp hb=> ?_)
 have hl_s:=bdS (s:=s) (hb _ m0)
 clear hp hb
 rw[Zv251 s]
 dsimp only
 refine⟨⟨by omega,by omega,rfl,by omega⟩,?_⟩
 rintro⟨i,⟨⟩⟩ ⟨h1,h2,hR,hS⟩
 have hl:=bs_len s
 simp only[bs_eq]
 refine if_cond (fun hc=> ?_) (fun hc=> ?_)
 ·have hc:=of_decide_eq_true hc
  have hb:=(List.getD (bs s) i.toNat 0).toNat_lt
  rw[all_step _ _ 0 h1 (by omega)] at hR
  rw[wrap_i64 (by omega) (by omega)]
  have hN:(bs s).all (byteP varB)=false→varOk s=false:=fun h=>by simp[varOk,h]
  have hm:Zm251_2 s (i+1,PUnit.unit)<Zm251_2 s (i,()):=by simp only[Zm251_2];omega
  refine⟨by omega,by omega,⟨by omega,by omega⟩,if_cond (fun h=>if_cond (fun h'=>Lf_ff ?_) (fun h'=>⟨by omega,by omega,⟨by omega,by omega⟩,if_cond (fun h''=>Lf_ff (hN ?_)) (fun h''=>⟨⟨by omega,by omega,?_,fun _=>hS ?_⟩,hm⟩)⟩)) (fun h=>⟨⟨by omega,by omega,?_,fun _=> ?_⟩,hm⟩)⟩
  ·have h':i=0:=by simpa using h'
   subst h'
   have h:largeB ((List.getD (bs s) 0 0).toNat:Int)=false:=by simpa using h
   simp only[varOk,h];simp
  ·rw[←hR];simp only[byteP,varB];simp at h h'';simp[h,h'']
  ·rw[←hR];simp only[byteP,varB];simp at h h'';simp[h,h'']
  ·have h':¬i=0:=by simpa using h'
   omega
  ·rw[←hR];simp only[byteP,varB];simp at h;simp[h]
  ·by_cases hz:i=0
   ·subst hz;simpa using h
   ·exact hS (by omega)
 ·have hc:=of_decide_eq_false hc
  rw[drop_end _ (by omega)] at hR
  refine Lf_b ?_
  simp only[varOk,←hR]
  by_cases hz:0<i
  ·rw[hS hz];simp only[List.all_nil];grind
  ·rw[decide_eq_false (by omega),decide_eq_false (by omega)];rfl
def Zh251:HH:=⟨_,Zo251⟩
def Zk254:Con UU where
 α:=ByteArray
 md:=[.ro]
 of:=o1 oS
 ds:=fun x=>[dS x]
 pre:=fun _=>[]
 res:=fun s=>⟨[.one (.lit (.bool (varOk s)))],true,[]⟩
 law:=l1 lS
def Zi254_4(s:ByteArray):Int×Unit→Prop:=fun(i,_)=>0≤i∧i≤s.size∧1≤s.size∧s.size≤12∧largeB (List.getD (bs s) 0 0).toNat=true∧((bs s).drop i.toNat).all (byteP varB)=(bs s).all (byteP varB)
def Zm254_4(s:ByteArray):Int×Unit→Nat:=fun(i,_)=>s.size-i.toNat
def Za254:Zk254.α→Nat→Option (Ann UU):=fun s=>annL [(4,annOf [.slot 3 (3,1024) (.lit (.int .i64))] (fun _=>Zi254_4 s) (Zm254_4 s))]
def Zu254:=us [Zh261,Zh194]
theorem Zv254(s:ByteArray):goal EE Zu254 Go.Proofs.Tryz.f254 Zk254 Za254 s=(bif decide ((↑(ByteArray.size s):Int)<(1:Int)) then Lb false (varOk s)
else
 bif decide ((↑(ByteArray.size s):Int)>(12:Int)) then Lf [DV.one (Cell.lit (Value.bool false))] [DV.one (Cell.lit (Value.bool (varOk s)))]
 else
  (0:Int)≤(0:Int)∧
   Int.toNat (0:Int)<ByteArray.size s∧
    bif !largeB (↑(UInt8.toNat (List.getD s.data.toList (Int.toNat (0:Int)) (0:UInt8))):Int) then Lf [DV.one (Cell.lit (Value.bool false))] [DV.one (Cell.lit (Value.bool (varOk s)))]
    else
     Zi254_4 s ((0:Int),PUnit.unit)∧
      ∀(y:Int×PUnit),
       let x0:Int:=(↑(UInt8.toNat (List.getD s.data.toList (Int.toNat y.1) (0:UInt8))):Int);
       Zi254_4 s y→bif decide (y.1<(↑(ByteArray.size s):Int)) then(0:Int)≤y.1∧Int.toNat y.1<ByteArray.size s∧bif !wordB x0 then(0:Int)≤y.1∧Int.toNat y.1<ByteArray.size s∧bif !largeB x0 then Lf [DV.one (Cell.lit (Value.bool false))] [DV.one (Cell.lit (Value.bool (varOk s)))] else Zi254_4 s (IntKind.wrap IntKind.i64 (y.1+(1:Int)),PUnit.unit)∧Zm254_4 s (IntKind.wrap IntKind.i64 (y.1+(1:Int)),PUnit.unit)<Zm254_4 s y else Zi254_4 s (IntKind.wrap IntKind.i64 (y.1+(1:Int)),PUnit.unit)∧Zm254_4 s (IntKind.wrap IntKind.i64 (y.1+(1:Int)),PUnit.unit)<Zm254_4 s y else Lf [DV.one (Cell.lit (Value.bool true))] [DV.one (Cell.lit (Value.bool (varOk s)))]):=by kernel_rfl
theorem Zo254:Holds EE (254,Zk254):=by
 refine holds_of EE_ok Go.Proofs.Tryz.func254 Zk254 (by kernel_rfl) Zu254 (us_ok _) Za254 (fun(s:ByteArray) hp hb=> ?_)
 have hl_s:=bdS (s:=s) (hb _ m0)
 clear hp hb
 rw[Zv254 s]
 dsimp only
 have hl:=bs_len s
 simp only[bs_eq]
 refine if_cond (fun h=>Lf_ff ?_) (fun h=>if_cond (fun h'=>Lf_ff ?_) (fun h'=> ?_))
 ·have h:=of_decide_eq_true h;simp only[varOk];rw[decide_eq_false (by omega)];rfl
 ·have h':=of_decide_eq_true h';simp only[varOk];rw[decide_eq_false (by omega)];rfl
 have h:=of_decide_eq_false h
 have h':=of_decide_eq_false h'
 refine⟨by omega,by omega,if_cond (fun g=>Lf_ff ?_) (fun g=>⟨⟨by omega,by omega,by omega,by omega,by simpa using g,rfl⟩,?_⟩)⟩
 ·have g:largeB ((List.getD (bs s) 0 0).toNat:Int)=false:=by simpa using g
  simp only[varOk,g];simp
 rintro⟨i,⟨⟩⟩ ⟨h1,h2,h3,h4,hS,hR⟩
 simp only
 refine if_cond (fun hc=> ?_) (fun hc=> ?_)
 ·have hc:=of_decide_eq_true hc
  rw[all_step _ _ 0 h1 (by omega)] at hR
  rw[wrap_i64 (by omega) (by omega)]
  have hN:(bs s).all (byteP varB)=false→varOk s=false:=fun h=>by simp[varOk,h]
  have hm:Zm254_4 s (i+1,PUnit.unit)<Zm254_4 s (i,()):=by simp only[Zm254_4];omega
  refine⟨by omega,by omega,if_cond (fun h=>⟨by omega,by omega,if_cond (fun h''=>Lf_ff (hN ?_)) (fun h''=>⟨⟨by omega,by omega,h3,h4,hS,?_⟩,hm⟩)⟩) (fun h=>⟨⟨by omega,by omega,h3,h4,hS,?_⟩,hm⟩)⟩
  ·rw[←hR];simp only[byteP,varB];simp at h h'';simp[h,h'']
  ·rw[←hR];simp only[byteP,varB];simp at h h'';simp[h,h'']
  ·rw[←hR];simp only[byteP,varB];simp at h;simp[h]
 ·have hc:=of_decide_eq_false hc
  rw[drop_end _ (by omega)] at hR
  refine Lf_tt ?_
  simp only[varOk,←hR,hS,decide_eq_true (show 1≤s.size∧s.size≤12 from⟨h3,h4⟩)];rfl
def Zh254:HH:=⟨_,Zo254⟩
def Zk234:Con UU where
 α:=DArg
 md:=[.ro]
 of:=o1 (oA .eArg)
 ds:=fun x=>[dA .eArg x]
 pre:=fun _=>[]
 res:=fun a=>⟨[.one (.lit (.bool (argOk a)))],true,[]⟩
 law:=l1 (lA .eArg)
def Za234:Zk234.α→Nat→Option (Ann UU):=fun a=>annL []
def Zu234:=us [Zh251,Zh165]
theorem Zv234(a:DArg):goal EE Zu234 Go.Proofs.Tryz.f234 Zk234 Za234 a=(let x0:Bool:=ByteArray.toList a.S==ByteArray.toList {data:= #[]:ByteArray};
bif a.K==(1:Int) then bif varOk a.S then Lf [DV.one (Cell.lit (Value.bool (a.V.K==(0:Int)&&(a.V.N==(0:Int)&&(ByteArray.toList a.V.S==ByteArray.toList {data:= #[]:ByteArray}&&true)))))] [DV.one (Cell.lit (Value.bool (argOk a)))] else Lf [DV.one (Cell.lit (Value.bool false))] [DV.one (Cell.lit (Value.bool (argOk a)))] else bif a.K==(2:Int) then bif valOk a.V then Lf [DV.one (Cell.lit (Value.bool x0))] [DV.one (Cell.lit (Value.bool (argOk a)))] else Lf [DV.one (Cell.lit (Value.bool false))] [DV.one (Cell.lit (Value.bool (argOk a)))] else bif a.K==(3:Int) then bif x0 then Lf [DV.one (Cell.lit (Value.bool (a.V.K==(0:Int)&&(a.V.N==(0:Int)&&(ByteArray.toList a.V.S==ByteArray.toList {data:= #[]:ByteArray}&&true)))))] [DV.one (Cell.lit (Value.bool (argOk a)))] else Lf [DV.one (Cell.lit (Value.bool false))] [DV.one (Cell.lit (Value.bool (argOk a)))] else Lf [DV.one (Cell.lit (Value.bool false))] [DV.one (Cell.lit (Value.bool (argOk a)))]):=by kernel_rfl
theorem Zo234:Holds EE (234,Zk234):=by
 refine holds_of EE_ok Go.Proofs.Tryz.func234 Zk234 (by kernel_rfl) Zu234 (us_ok _) Za234 (fun(a:DArg) hp hb=> ?_)
 have hz0:=bd_eArg (x:=a) (hb _ m0)
 have hl_a_S:=hz0.1
 have hl_a_V_S:=hz0.2
 clear hp hb
 rw[Zv234 a]
 dsimp only
 have ev:∀v:DVal,(v.K==0&&(v.N==0&&(ByteArray.toList v.S==ByteArray.toList {data:= #[]}&&true)))=decide (v=zVal):=fun v=>val_beq v zVal
 have e:∀s:ByteArray,(ByteArray.toList s==ByteArray.toList {data:= #[]})=decide (s=noBytes):=fun s=>toList_beq _ _
 simp only[ev,e,argOk]
 repeat' (refine if_cond (fun h=> ?_) (fun h=> ?_))
 all_goals (refine Lf_b ?_;grind)
def Zh234:HH:=⟨_,Zo234⟩
def Zk239:Con UU where
 α:=DArg
 md:=[.ro]
 of:=o1 (oA .eArg)
 ds:=fun x=>[dA .eArg x]
 pre:=fun _=>[]
 res:=fun a=>⟨[.one (.lit (.bool (argOk a)))],true,[]⟩
 law:=l1 (lA .eArg)
def Za239:Zk239.α→Nat→Option (Ann UU):=fun a=>annL []
def Zu239:=us [Zh254,Zh182]
theorem Zv239(a:DArg):goal EE Zu239 Go.Proofs.Tryz.f239 Zk239 Za239 a=(let x0:Bool:=ByteArray.toList a.S==ByteArray.toList {data:= #[]:ByteArray};
bif a.K==(1:Int) then bif varOk a.S then Lf [DV.one (Cell.lit (Value.bool (a.V.K==(0:Int)&&(a.V.N==(0:Int)&&(ByteArray.toList a.V.S==ByteArray.toList {data:= #[]:ByteArray}&&true)))))] [DV.one (Cell.lit (Value.bool (argOk a)))] else Lf [DV.one (Cell.lit (Value.bool false))] [DV.one (Cell.lit (Value.bool (argOk a)))] else bif a.K==(2:Int) then bif x0 then Lf [DV.one (Cell.lit (Value.bool (valOk a.V)))] [DV.one (Cell.lit (Value.bool (argOk a)))] else Lf [DV.one (Cell.lit (Value.bool false))] [DV.one (Cell.lit (Value.bool (argOk a)))] else bif a.K==(3:Int) then bif x0 then Lf [DV.one (Cell.lit (Value.bool (a.V.K==(0:Int)&&(a.V.N==(0:Int)&&(ByteArray.toList a.V.S==ByteArray.toList {data:= #[]:ByteArray}&&true)))))] [DV.one (Cell.lit (Value.bool (argOk a)))] else Lf [DV.one (Cell.lit (Value.bool false))] [DV.one (Cell.lit (Value.bool (argOk a)))] else Lf [DV.one (Cell.lit (Value.bool false))] [DV.one (Cell.lit (Value.bool (argOk a)))]):=by kernel_rfl
theorem Zo239:Holds EE (239,Zk239):=by
 refine holds_of EE_ok Go.Proofs.Tryz.func239 Zk239 (by kernel_rfl) Zu239 (us_ok _) Za239 (fun(a:DArg) hp hb=> ?_)
 have hz0:=bd_eArg (x:=a) (hb _ m0)
 have hl_a_S:=hz0.1
 have hl_a_V_S:=hz0.2
 clear hp hb
 rw[Zv239 a]
 dsimp only
 have ev:∀v:DVal,(v.K==0&&(v.N==0&&(ByteArray.toList v.S==ByteArray.toList {data:= #[]}&&true)))=decide (v=zVal):=fun v=>val_beq v zVal
 have e:∀s:ByteArray,(ByteArray.toList s==ByteArray.toList {data:= #[]})=decide (s=noBytes):=fun s=>toList_beq _ _
 simp only[ev,e,argOk]
 repeat' (refine if_cond (fun h=> ?_) (fun h=> ?_))
 all_goals (refine Lf_b ?_;grind)
def Zh239:HH:=⟨_,Zo239⟩
def Zk207:Con UU where
 α:=DPat
 md:=[.ro]
 of:=o1 (oA .ePat)
 ds:=fun x=>[dA .ePat x]
 pre:=fun _=>[]
 res:=fun p=>⟨[.one (.lit (.bool (patOk p)))],true,[]⟩
 law:=l1 (lA .ePat)
def Zi207_2(p:DPat):Int×(ByteArray×List DArg×Bool×Unit)×Unit→Prop:=fun(i,b,_)=>b=(p.Kind,p.Args,p.Not,())∧0≤i∧i≤p.Args.length∧(p.Args.drop i.toNat).all argOk=p.Args.all argOk
def Zm207_2(p:DPat):Int×(ByteArray×List DArg×Bool×Unit)×Unit→Nat:=fun(i,b,_)=>p.Args.length-i.toNat
def Za207:Zk207.α→Nat→Option (Ann UU):=fun p=>annL [(2,annOf [.slot 3 (3,1024) (.lit (.int .i64)),.box 1 (1,1024) [.lit .str,.shr .eArg,.lit .bool]] (fun _=>Zi207_2 p) (Zm207_2 p))]
def Zu207:=us [Zh234,Zh71]
theorem Zv207(p:DPat):goal EE Zu207 Go.Proofs.Tryz.f207 Zk207 Za207 p=(Zi207_2 p ((0:Int),(p.Kind,p.Args,p.Not,()),())∧
 ∀(y:Int×(ByteArray×List DArg×Bool×PUnit)×PUnit),
  let x1:Nat:=List.length y.2.1.2.1;
  let x0:Int:=(↑x1:Int);
  Zi207_2 p y→bif decide (y.1<x0) then(0:Int)≤y.1∧Int.toNat y.1<x1∧bif !argOk (List.getD y.2.1.2.1 (Int.toNat y.1) zArg) then Lf [DV.one (Cell.lit (Value.bool false))] [DV.one (Cell.lit (Value.bool (patOk p)))] else Zi207_2 p (IntKind.wrap IntKind.i64 (y.1+(1:Int)),(y.2.1.1,y.2.1.2.1,y.2.1.2.2.1,PUnit.unit),PUnit.unit)∧Zm207_2 p (IntKind.wrap IntKind.i64 (y.1+(1:Int)),(y.2.1.1,y.2.1.2.1,y.2.1.2.2.1,PUnit.unit),PUnit.unit)<Zm207_2 p y else bif nameOk y.2.1.1 then Lf [DV.one (Cell.lit (Value.bool (decide (x0≤(5:Int)))))] [DV.one (Cell.lit (Value.bool (patOk p)))] else Lf [DV.one (Cell.lit (Value.bool false))] [DV.one (Cell.lit (Value.bool (patOk p)))]):=by kernel_rfl
theorem Zo207:Holds EE (207,Zk207):=by
 refine holds_of EE_ok Go.Proofs.Tryz.func207 Zk207 (by kernel_rfl) Zu207 (us_ok _) Za207 (fun(p:DPat) hp hb=> ?_)
 have hz0:=bd_ePat (x:=p) (hb _ m0)
 have hl_p_Kind:=hz0.1
 have hl_p_Args:=hz0.2
 clear hp hb
 rw[Zv207 p]
 dsimp only
 refine⟨⟨rfl,by omega,by omega,rfl⟩,?_⟩
 rintro⟨i,⟨bk,ba,bn,⟨⟩⟩,⟨⟩⟩ ⟨hbx,h1,h2,hR⟩
 cases hbx
 simp only
 refine if_cond (fun hc=> ?_) (fun hc=> ?_)
 ·have hc:=of_decide_eq_true hc
  rw[all_step _ _ zArg h1 (by omega)] at hR
  rw[wrap_i64 (by omega) (by omega)]
  refine⟨by omega,by omega,if_cond (fun h=>Lf_ff ?_) (fun h=>⟨⟨rfl,by omega,by omega,?_⟩,?_⟩)⟩
  ·simp only[patOk,←hR];simp at h;simp[h]
  ·rw[←hR];simp at h;simp[h]
  ·simp only[Zm207_2];omega
 ·have hc:=of_decide_eq_false hc
  rw[drop_end _ (by omega)] at hR
  simp only[patOk,←hR,List.all_nil]
  repeat' (refine if_cond (fun h=> ?_) (fun h=> ?_))
  all_goals (refine Lf_b ?_;grind)
def Zh207:HH:=⟨_,Zo207⟩
def Zk216:Con UU where
 α:=DPat
 md:=[.ro]
 of:=o1 (oA .ePat)
 ds:=fun x=>[dA .ePat x]
 pre:=fun _=>[]
 res:=fun p=>⟨[.one (.lit (.bool (patOk p)))],true,[]⟩
 law:=l1 (lA .ePat)
def Zi216_4(p:DPat):Int×Unit→Prop:=fun(i,_)=>0≤i∧i≤p.Args.length∧p.Args.length≤5∧nameOk p.Kind=true∧(p.Args.drop i.toNat).all argOk=p.Args.all argOk
def Zm216_4(p:DPat):Int×Unit→Nat:=fun(i,_)=>p.Args.length-i.toNat
def Za216:Zk216.α→Nat→Option (Ann UU):=fun p=>annL [(4,annOf [.slot 18 (18,1024) (.lit (.int .i64))] (fun _=>Zi216_4 p) (Zm216_4 p))]
def Zu216:=us [Zh239,Zh76]
theorem Zv216(p:DPat):goal EE Zu216 Go.Proofs.Tryz.f216 Zk216 Za216 p=(let x0:Int:=(p.Args.length:Int);
bif !nameOk p.Kind then Lf [DV.one (Cell.lit (Value.bool false))] [DV.one (Cell.lit (Value.bool (patOk p)))] else bif decide (x0>(5:Int)) then Lf [DV.one (Cell.lit (Value.bool false))] [DV.one (Cell.lit (Value.bool (patOk p)))] else Zi216_4 p ((0:Int),PUnit.unit)∧∀(y:Int×PUnit),Zi216_4 p y→bif decide (y.1<x0) then(0:Int)≤y.1∧Int.toNat y.1<List.length p.Args∧bif !argOk (List.getD p.Args (Int.toNat y.1) zArg) then Lf [DV.one (Cell.lit (Value.bool false))] [DV.one (Cell.lit (Value.bool (patOk p)))] else Zi216_4 p (IntKind.wrap IntKind.i64 (y.1+(1:Int)),PUnit.unit)∧Zm216_4 p (IntKind.wrap IntKind.i64 (y.1+(1:Int)),PUnit.unit)<Zm216_4 p y else Lf [DV.one (Cell.lit (Value.bool true))] [DV.one (Cell.lit (Value.bool (patOk p)))]):=by kernel_rfl
theorem Zo216:Holds EE (216,Zk216):=by
 refine holds_of EE_ok Go.Proofs.Tryz.func216 Zk216 (by kernel_rfl) Zu216 (us_ok _) Za216 (fun(p:DPat) hp hb=> ?_)
 have hz0:=bd_ePat (x:=p) (hb _ m0)
 have hl_p_Kind:=hz0.1
 have hl_p_Args:=hz0.2
 clear hp hb
 rw[Zv216 p]
 dsimp only
 refine if_cond (fun h=>Lf_ff ?_) (fun h=>if_cond (fun h'=>Lf_ff ?_) (fun h'=> ?_))
 ·simp only[patOk];simp at h;simp[h]
 ·have h':=of_decide_eq_true h';simp only[patOk];rw[decide_eq_false (show¬p.Args.length≤5 by omega)];simp
 have h':=of_decide_eq_false h'
 refine⟨⟨by omega,by omega,by omega,by simpa using h,rfl⟩,?_⟩
 rintro⟨i,⟨⟩⟩ ⟨h1,h2,h3,h4,hR⟩
 simp only
 refine if_cond (fun hc=> ?_) (fun hc=> ?_)
 ·have hc:=of_decide_eq_true hc
  rw[all_step _ _ zArg h1 (by omega)] at hR
  rw[wrap_i64 (by omega) (by omega)]
  refine⟨by omega,by omega,if_cond (fun h=>Lf_ff ?_) (fun h=>⟨⟨by omega,by omega,h3,h4,?_⟩,?_⟩)⟩
  ·simp only[patOk,←hR];simp at h;simp[h]
  ·rw[←hR];simp at h;simp[h]
  ·simp only[Zm216_4];omega
 ·have hc:=of_decide_eq_false hc
  rw[drop_end _ (by omega)] at hR
  refine Lf_tt ?_
  simp only[patOk,←hR,h4,decide_eq_true h3];rfl
def Zh216:HH:=⟨_,Zo216⟩
def Zk217:Con UU where
 α:=DArg
 md:=[.ro]
 of:=o1 (oA .eArg)
 ds:=fun x=>[dA .eArg x]
 pre:=fun _=>[]
 res:=fun a=>⟨[.one (.lit (.bool (termOk a)))],true,[]⟩
 law:=l1 (lA .eArg)
def Za217:Zk217.α→Nat→Option (Ann UU):=fun a=>annL []
def Zu217:=us [Zh239]
theorem Zv217(a:DArg):goal EE Zu217 Go.Proofs.Tryz.f217 Zk217 Za217 a=(bif a.K !=(3:Int) then Lb (argOk a) (termOk a) else Lb false (termOk a)):=by kernel_rfl
theorem Zo217:Holds EE (217,Zk217):=by
 refine holds_of EE_ok Go.Proofs.Tryz.func217 Zk217 (by kernel_rfl) Zu217 (us_ok _) Za217 (fun(a:DArg) hp hb=> ?_)
 have hz0:=bd_eArg (x:=a) (hb _ m0)
 have hl_a_S:=hz0.1
 have hl_a_V_S:=hz0.2
 clear hp hb
 rw[Zv217 a]
 simp only[termOk]
 repeat' (refine if_cond (fun h=> ?_) (fun h=> ?_))
 all_goals (refine Lf_b ?_;grind)
def Zh217:HH:=⟨_,Zo217⟩
def Zk260:Con UU where
 α:=DArg
 md:=[.ro]
 of:=o1 (oA .eArg)
 ds:=fun x=>[dA .eArg x]
 pre:=fun _=>[]
 res:=fun a=>⟨[.one (.lit (.bool (termOk a)))],true,[]⟩
 law:=l1 (lA .eArg)
def Za260:Zk260.α→Nat→Option (Ann UU):=fun a=>annL []
def Zu260:=us [Zh234]
theorem Zv260(a:DArg):goal EE Zu260 Go.Proofs.Tryz.f260 Zk260 Za260 a=(bif argOk a then Lb (a.K !=(3:Int)) (termOk a) else Lb false (termOk a)):=by kernel_rfl
theorem Zo260:Holds EE (260,Zk260):=by
 refine holds_of EE_ok Go.Proofs.Tryz.func260 Zk260 (by kernel_rfl) Zu260 (us_ok _) Za260 (fun(a:DArg) hp hb=> ?_)
 have hz0:=bd_eArg (x:=a) (hb _ m0)
 have hl_a_S:=hz0.1
 have hl_a_V_S:=hz0.2
 clear hp hb
 rw[Zv260 a]
 simp only[termOk]
 repeat' (refine if_cond (fun h=> ?_) (fun h=> ?_))
 all_goals (refine Lf_b ?_;grind)
def Zh260:HH:=⟨_,Zo260⟩
def Zk208:Con UU where
 α:=DCond
 md:=[.ro]
 of:=o1 (oA .eCond)
 ds:=fun x=>[dA .eCond x]
 pre:=fun _=>[]
 res:=fun c=>⟨[.one (.lit (.bool (kondOk c)))],true,[]⟩
 law:=l1 (lA .eCond)
def Za208:Zk208.α→Nat→Option (Ann UU):=fun c=>annL []
def Zu208:=us [Zh40,Zh234]
theorem Zv208(c:DCond):goal EE Zu208 Go.Proofs.Tryz.f208 Zk208 Za208 c=(bif decide ((1:Int)≤c.Op∧c.Op≤(3:Int)) then bif argOk c.L then bif argOk c.R then bif c.L.K !=(3:Int) then Lb (c.R.K !=(3:Int)) (kondOk c) else Lb false (kondOk c) else Lb false (kondOk c) else Lb false (kondOk c) else Lb false (kondOk c)):=by kernel_rfl
theorem Zo208:Holds EE (208,Zk208):=by
 refine holds_of EE_ok Go.Proofs.Tryz.func208 Zk208 (by kernel_rfl) Zu208 (us_ok _) Za208 (fun(c:DCond) hp hb=> ?_)
 have hz0:=bd_eCond (x:=c) (hb _ m0)
 have hl_c_L_S:=hz0.1
 have hl_c_L_V_S:=hz0.2.1
 have hl_c_R_S:=hz0.2.2.1
 have hl_c_R_V_S:=hz0.2.2.2
 clear hp hb
 rw[Zv208 c]
 simp only[kondOk,termOk]
 repeat' (refine if_cond (fun h=> ?_) (fun h=> ?_))
 all_goals (refine Lf_b ?_;grind)
def Zh208:HH:=⟨_,Zo208⟩
def Zk175:Con UU where
 α:=DCond
 md:=[.ro]
 of:=o1 (oA .eCond)
 ds:=fun x=>[dA .eCond x]
 pre:=fun _=>[]
 res:=fun c=>⟨[.one (.lit (.bool (kondOk c)))],true,[]⟩
 law:=l1 (lA .eCond)
def Za175:Zk175.α→Nat→Option (Ann UU):=fun c=>annL []
def Zu175:=us [Zh56,Zh217]
theorem Zv175(c:DCond):goal EE Zu175 Go.Proofs.Tryz.f175 Zk175 Za175 c=(bif decide ((1:Int)≤c.Op∧c.Op≤(3:Int)) then bif termOk c.L then Lb (termOk c.R) (kondOk c) else Lb false (kondOk c) else Lb false (kondOk c)):=by kernel_rfl
theorem Zo175:Holds EE (175,Zk175):=by
 refine holds_of EE_ok Go.Proofs.Tryz.func175 Zk175 (by kernel_rfl) Zu175 (us_ok _) Za175 (fun(c:DCond) hp hb=> ?_)
 have hz0:=bd_eCond (x:=c) (hb _ m0)
 have hl_c_L_S:=hz0.1
 have hl_c_L_V_S:=hz0.2.1
 have hl_c_R_S:=hz0.2.2.1
 have hl_c_R_V_S:=hz0.2.2.2
 clear hp hb
 rw[Zv175 c]
 simp only[kondOk]
 repeat' (refine if_cond (fun h=> ?_) (fun h=> ?_))
 all_goals (refine Lf_b ?_;grind)
def Zh175:HH:=⟨_,Zo175⟩
def Zk252:Con UU where
 α:=DExpr
 md:=[.ro]
 of:=o1 (oA .eExpr)
 ds:=fun x=>[dA .eExpr x]
 pre:=fun _=>[]
 res:=fun e=>⟨[.one (.lit (.bool (exprOk e)))],true,[]⟩
 law:=l1 (lA .eExpr)
def Za252:Zk252.α→Nat→Option (Ann UU):=fun e=>annL []
def Zu252:=us [Zh260]
theorem Zv252(e:DExpr):goal EE Zu252 Go.Proofs.Tryz.f252 Zk252 Za252 e=(let x0:Bool:=ByteArray.toList e.Op==ByteArray.toList {data:= #[(43:UInt8)]:ByteArray};
bif ByteArray.toList e.Op==ByteArray.toList {data:= #[]:ByteArray} then bif termOk e.L then Lf [DV.one (Cell.lit (Value.bool (e.R.K==(0:Int)&&(ByteArray.toList e.R.S==ByteArray.toList {data:= #[]:ByteArray}&&(e.R.V.K==(0:Int)&&(e.R.V.N==(0:Int)&&(ByteArray.toList e.R.V.S==ByteArray.toList {data:= #[]:ByteArray}&&true))&&true)))))] [DV.one (Cell.lit (Value.bool (exprOk e)))] else Lf [DV.one (Cell.lit (Value.bool false))] [DV.one (Cell.lit (Value.bool (exprOk e)))] else bif x0 then bif x0 then bif termOk e.L then Lf [DV.one (Cell.lit (Value.bool (termOk e.R)))] [DV.one (Cell.lit (Value.bool (exprOk e)))] else Lf [DV.one (Cell.lit (Value.bool false))] [DV.one (Cell.lit (Value.bool (exprOk e)))] else Lf [DV.one (Cell.lit (Value.bool false))] [DV.one (Cell.lit (Value.bool (exprOk e)))] else bif ByteArray.toList e.Op==ByteArray.toList {data:= #[(45:UInt8)]:ByteArray} then bif termOk e.L then Lf [DV.one (Cell.lit (Value.bool (termOk e.R)))] [DV.one (Cell.lit (Value.bool (exprOk e)))] else Lf [DV.one (Cell.lit (Value.bool false))] [DV.one (Cell.lit (Value.bool (exprOk e)))] else Lf [DV.one (Cell.lit (Value.bool false))] [DV.one (Cell.lit (Value.bool (exprOk e)))]):=by kernel_rfl
theorem Zo252:Holds EE (252,Zk252):=by
 refine holds_of EE_ok Go.Proofs.Tryz.func252 Zk252 (by kernel_rfl) Zu252 (us_ok _) Za252 (fun(e:DExpr) hp hb=> ?_)
 have hz0:=bd_eExpr (x:=e) (hb _ m0)
 have hl_e_Op:=hz0.1
 have hl_e_L_S:=hz0.2.1
 have hl_e_L_V_S:=hz0.2.2.1
 have hl_e_R_S:=hz0.2.2.2.1
 have hl_e_R_V_S:=hz0.2.2.2.2
 clear hp hb
 rw[Zv252 e]
 dsimp only
 have e:∀s:ByteArray,(ByteArray.toList s==ByteArray.toList {data:= #[]})=decide (s=noBytes):=fun s=>toList_beq _ _
 have ea:∀a:DArg,(a.K==0&&(ByteArray.toList a.S==ByteArray.toList {data:= #[]}&&(a.V.K==0&&(a.V.N==0&&(ByteArray.toList a.V.S==ByteArray.toList {data:= #[]}&&true))&&true)))=decide (a=zArg):=fun a=>argR_beq a zArg
 have e1:∀s:ByteArray,(ByteArray.toList s==ByteArray.toList {data:= #[43]})=decide (s=bPlus):=fun s=>toList_beq _ _
 have e2:∀s:ByteArray,(ByteArray.toList s==ByteArray.toList {data:= #[45]})=decide (s=bMinus):=fun s=>toList_beq _ _
 simp only[ea]
 simp only[e,e1,e2,exprOk]
 repeat' (refine if_cond (fun h=> ?_) (fun h=> ?_))
 all_goals (refine Lf_b ?_;grind)
def Zh252:HH:=⟨_,Zo252⟩
def Zk240:Con UU where
 α:=DExpr
 md:=[.ro]
 of:=o1 (oA .eExpr)
 ds:=fun x=>[dA .eExpr x]
 pre:=fun _=>[]
 res:=fun e=>⟨[.one (.lit (.bool (exprOk e)))],true,[]⟩
 law:=l1 (lA .eExpr)
def Za240:Zk240.α→Nat→Option (Ann UU):=fun e=>annL []
def Zu240:=us [Zh217]
theorem Zv240(e:DExpr):goal EE Zu240 Go.Proofs.Tryz.f240 Zk240 Za240 e=(let x0:Bool:=ByteArray.toList e.Op==ByteArray.toList {data:= #[(43:UInt8)]:ByteArray};
bif ByteArray.toList e.Op==ByteArray.toList {data:= #[]:ByteArray} then bif termOk e.L then Lf [DV.one (Cell.lit (Value.bool (e.R.K==(0:Int)&&(ByteArray.toList e.R.S==ByteArray.toList {data:= #[]:ByteArray}&&(e.R.V.K==(0:Int)&&(e.R.V.N==(0:Int)&&(ByteArray.toList e.R.V.S==ByteArray.toList {data:= #[]:ByteArray}&&true))&&true)))))] [DV.one (Cell.lit (Value.bool (exprOk e)))] else Lf [DV.one (Cell.lit (Value.bool false))] [DV.one (Cell.lit (Value.bool (exprOk e)))] else bif x0 then bif x0 then bif termOk e.L then Lf [DV.one (Cell.lit (Value.bool (termOk e.R)))] [DV.one (Cell.lit (Value.bool (exprOk e)))] else Lf [DV.one (Cell.lit (Value.bool false))] [DV.one (Cell.lit (Value.bool (exprOk e)))] else Lf [DV.one (Cell.lit (Value.bool false))] [DV.one (Cell.lit (Value.bool (exprOk e)))] else bif ByteArray.toList e.Op==ByteArray.toList {data:= #[(45:UInt8)]:ByteArray} then bif termOk e.L then Lf [DV.one (Cell.lit (Value.bool (termOk e.R)))] [DV.one (Cell.lit (Value.bool (exprOk e)))] else Lf [DV.one (Cell.lit (Value.bool false))] [DV.one (Cell.lit (Value.bool (exprOk e)))] else Lf [DV.one (Cell.lit (Value.bool false))] [DV.one (Cell.lit (Value.bool (exprOk e)))]):=by kernel_rfl
theorem Zo240:Holds EE (240,Zk240):=by
 refine holds_of EE_ok Go.Proofs.Tryz.func240 Zk240 (by kernel_rfl) Zu240 (us_ok _) Za240 (fun(e:DExpr) hp hb=> ?_)
 have hz0:=bd_eExpr (x:=e) (hb _ m0)
 have hl_e_Op:=hz0.1
 have hl_e_L_S:=hz0.2.1
 have hl_e_L_V_S:=hz0.2.2.1
 have hl_e_R_S:=hz0.2.2.2.1
 have hl_e_R_V_S:=hz0.2.2.2.2
 clear hp hb
 rw[Zv240 e]
 dsimp only
 have e:∀s:ByteArray,(ByteArray.toList s==ByteArray.toList {data:= #[]})=decide (s=noBytes):=fun s=>toList_beq _ _
 have ea:∀a:DArg,(a.K==0&&(ByteArray.toList a.S==ByteArray.toList {data:= #[]}&&(a.V.K==0&&(a.V.N==0&&(ByteArray.toList a.V.S==ByteArray.toList {data:= #[]}&&true))&&true)))=decide (a=zArg):=fun a=>argR_beq a zArg
 have e1:∀s:ByteArray,(ByteArray.toList s==ByteArray.toList {data:= #[43]})=decide (s=bPlus):=fun s=>toList_beq _ _
 have e2:∀s:ByteArray,(ByteArray.toList s==ByteArray.toList {data:= #[45]})=decide (s=bMinus):=fun s=>toList_beq _ _
 simp only[ea]
 simp only[e,e1,e2,exprOk]
 repeat' (refine if_cond (fun h=> ?_) (fun h=> ?_))
 all_goals (refine Lf_b ?_;grind)
def Zh240:HH:=⟨_,Zo240⟩
def Zk235:Con UU where
 α:=(List DExpr)
 md:=[.ro]
 of:=o1 (oL .eExpr)
 ds:=fun x=>[dL .eExpr x]
 pre:=fun _=>[]
 res:=fun es=>⟨[.one (.lit (.bool (exprsOk es)))],true,[]⟩
 law:=l1 (lL .eExpr)
def Zi235_2(es:(List DExpr)):Int×Unit→Prop:=fun(i,_)=>0≤i∧i≤es.length∧(es.drop i.toNat).all exprOk=es.all exprOk
def Zm235_2(es:(List DExpr)):Int×Unit→Nat:=fun(i,_)=>es.length-i.toNat
def Za235:Zk235.α→Nat→Option (Ann UU):=fun es=>annL [(2,annOf [.slot 3 (3,1024) (.lit (.int .i64))] (fun _=>Zi235_2 es) (Zm235_2 es))]
def Zu235:=us [Zh252]
theorem Zv235(es:(List DExpr)):goal EE Zu235 Go.Proofs.Tryz.f235 Zk235 Za235 es=(let x0:Int:=(es.length:Int);
Zi235_2 es ((0:Int),PUnit.unit)∧∀(y:Int×PUnit),Zi235_2 es y→bif decide (y.1<x0) then(0:Int)≤y.1∧Int.toNat y.1<List.length es∧bif !exprOk (List.getD es (Int.toNat y.1) zExpr) then Lf [DV.one (Cell.lit (Value.bool false))] [DV.one (Cell.lit (Value.bool (exprsOk es)))] else Zi235_2 es (IntKind.wrap IntKind.i64 (y.1+(1:Int)),PUnit.unit)∧Zm235_2 es (IntKind.wrap IntKind.i64 (y.1+(1:Int)),PUnit.unit)<Zm235_2 es y else Lf [DV.one (Cell.lit (Value.bool (decide (x0≤(5:Int)))))] [DV.one (Cell.lit (Value.bool (exprsOk es)))]):=by kernel_rfl
theorem Zo235:Holds EE (235,Zk235):=by
 refine holds_of EE_ok Go.Proofs.Tryz.func235 Zk235 (by kernel_rfl) Zu235 (us_ok _) Za235 (fun(es:(List DExpr)) hp hb=> ?_)
 have hl_es:es.length≤9223372036854775807:=bdL (hb _ m0)
 clear hp hb
 rw[Zv235 es]
 dsimp only
 refine⟨⟨by omega,by omega,rfl⟩,?_⟩
 rintro⟨i,⟨⟩⟩ ⟨h1,h2,hR⟩
 simp only
 refine if_cond (fun hc=> ?_) (fun hc=> ?_)
 ·have hc:=of_decide_eq_true hc
  rw[all_step _ _ zExpr h1 (by omega)] at hR
  rw[wrap_i64 (by omega) (by omega)]
  refine⟨by omega,by omega,if_cond (fun h=>Lf_ff ?_) (fun h=>⟨⟨by omega,by omega,?_⟩,?_⟩)⟩
  ·simp only[exprsOk,←hR];simp at h;simp[h]
  ·rw[←hR];simp at h;simp[h]
  ·simp only[Zm235_2];omega
 ·have hc:=of_decide_eq_false hc
  rw[drop_end _ (by omega)] at hR
  refine Lf_b ?_
  simp only[exprsOk,←hR];simp;omega
def Zh235:HH:=⟨_,Zo235⟩
def Zk218:Con UU where
 α:=DAct
 md:=[.ro]
 of:=o1 (oA .eAct)
 ds:=fun x=>[dA .eAct x]
 pre:=fun _=>[]
 res:=fun a=>⟨[.one (.lit (.bool (nameOk a.Name&&exprsOk a.Args)))],true,[]⟩
 law:=l1 (lA .eAct)
def Zi218_4(a:DAct):Int×Unit→Prop:=fun(i,_)=>0≤i∧i≤a.Args.length∧a.Args.length≤5∧nameOk a.Name=true∧(a.Args.drop i.toNat).all exprOk=a.Args.all exprOk
def Zm218_4(a:DAct):Int×Unit→Nat:=fun(i,_)=>a.Args.length-i.toNat
def Za218:Zk218.α→Nat→Option (Ann UU):=fun a=>annL [(4,annOf [.slot 18 (18,1024) (.lit (.int .i64))] (fun _=>Zi218_4 a) (Zm218_4 a))]
def Zu218:=us [Zh240,Zh76]
theorem Zv218(a:DAct):goal EE Zu218 Go.Proofs.Tryz.f218 Zk218 Za218 a=(let x0:Int:=(a.Args.length:Int);
bif !nameOk a.Name then Lf [DV.one (Cell.lit (Value.bool false))] [DV.one (Cell.lit (Value.bool (nameOk a.Name&&exprsOk a.Args)))] else bif decide (x0>(5:Int)) then Lf [DV.one (Cell.lit (Value.bool false))] [DV.one (Cell.lit (Value.bool (nameOk a.Name&&exprsOk a.Args)))] else Zi218_4 a ((0:Int),PUnit.unit)∧∀(y:Int×PUnit),Zi218_4 a y→bif decide (y.1<x0) then(0:Int)≤y.1∧Int.toNat y.1<List.length a.Args∧bif !exprOk (List.getD a.Args (Int.toNat y.1) zExpr) then Lf [DV.one (Cell.lit (Value.bool false))] [DV.one (Cell.lit (Value.bool (nameOk a.Name&&exprsOk a.Args)))] else Zi218_4 a (IntKind.wrap IntKind.i64 (y.1+(1:Int)),PUnit.unit)∧Zm218_4 a (IntKind.wrap IntKind.i64 (y.1+(1:Int)),PUnit.unit)<Zm218_4 a y else Lf [DV.one (Cell.lit (Value.bool true))] [DV.one (Cell.lit (Value.bool (nameOk a.Name&&exprsOk a.Args)))]):=by kernel_rfl
theorem Zo218:Holds EE (218,Zk218):=by
 refine holds_of EE_ok Go.Proofs.Tryz.func218 Zk218 (by kernel_rfl) Zu218 (us_ok _) Za218 (fun(a:DAct) hp hb=> ?_)
 have hz0:=bd_eAct (x:=a) (hb _ m0)
 have hl_a_Name:=hz0.1
 have hl_a_Args:=hz0.2.1
 have hl_a_Undo:=hz0.2.2
 clear hp hb
 rw[Zv218 a]
 dsimp only
 refine if_cond (fun h=>Lf_ff ?_) (fun h=>if_cond (fun h'=>Lf_ff ?_) (fun h'=> ?_))
 ·simp at h;simp[h]
 ·have h':=of_decide_eq_true h';simp only[exprsOk];rw[decide_eq_false (show¬a.Args.length≤5 by omega)];simp
 have h':=of_decide_eq_false h'
 refine⟨⟨by omega,by omega,by omega,by simpa using h,rfl⟩,?_⟩
 rintro⟨i,⟨⟩⟩ ⟨h1,h2,h3,h4,hR⟩
 simp only
 refine if_cond (fun hc=> ?_) (fun hc=> ?_)
 ·have hc:=of_decide_eq_true hc
  rw[all_step _ _ zExpr h1 (by omega)] at hR
  rw[wrap_i64 (by omega) (by omega)]
  refine⟨by omega,by omega,if_cond (fun h=>Lf_ff ?_) (fun h=>⟨⟨by omega,by omega,h3,h4,?_⟩,?_⟩)⟩
  ·simp only[exprsOk,←hR];simp at h;simp[h]
  ·rw[←hR];simp at h;simp[h]
  ·simp only[Zm218_4];omega
 ·have hc:=of_decide_eq_false hc
  rw[drop_end _ (by omega)] at hR
  refine Lf_tt ?_
  simp only[exprsOk,←hR,h4,decide_eq_true h3];rfl
def Zh218:HH:=⟨_,Zo218⟩
def Zk210:Con UU where
 α:=DAct
 md:=[.ro]
 of:=o1 (oA .eAct)
 ds:=fun x=>[dA .eAct x]
 pre:=fun _=>[]
 res:=fun a=>⟨[.one (.lit (.bool (actOk a)))],true,[]⟩
 law:=l1 (lA .eAct)
def Za210:Zk210.α→Nat→Option (Ann UU):=fun a=>annL []
def Zu210:=us [Zh40,Zh71,Zh235]
theorem Zv210(a:DAct):goal EE Zu210 Go.Proofs.Tryz.f210 Zk210 Za210 a=(let x0:Bool:=ByteArray.toList a.Undo==ByteArray.toList {data:= #[]:ByteArray};
let x1:Bool:=a.Kind==(5:Int);
let x2:Bool:=a.N==(0:Int);
bif ByteArray.toList a.Name==ByteArray.toList {data:= #[]:ByteArray} then bif (↑(List.length a.Args):Int)==(0:Int) then bif a.Kind==(1:Int) then bif nameOk a.Name then bif exprsOk a.Args then bif x2 then Lf [DV.one (Cell.lit (Value.bool x0))] [DV.one (Cell.lit (Value.bool (actOk a)))] else Lf [DV.one (Cell.lit (Value.bool false))] [DV.one (Cell.lit (Value.bool (actOk a)))] else Lf [DV.one (Cell.lit (Value.bool false))] [DV.one (Cell.lit (Value.bool (actOk a)))] else Lf [DV.one (Cell.lit (Value.bool false))] [DV.one (Cell.lit (Value.bool (actOk a)))] else bif a.Kind==(3:Int) then bif nameOk a.Name then bif exprsOk a.Args then bif x2 then bif x0 then Lf [DV.one (Cell.lit (Value.bool true))] [DV.one (Cell.lit (Value.bool (actOk a)))] else Lf [DV.one (Cell.lit (Value.bool (nameOk a.Undo)))] [DV.one (Cell.lit (Value.bool (actOk a)))] else Lf [DV.one (Cell.lit (Value.bool false))] [DV.one (Cell.lit (Value.bool (actOk a)))] else Lf [DV.one (Cell.lit (Value.bool false))] [DV.one (Cell.lit (Value.bool (actOk a)))] else Lf [DV.one (Cell.lit (Value.bool false))] [DV.one (Cell.lit (Value.bool (actOk a)))] else bif a.Kind==(4:Int) then bif nameOk a.Name then bif exprsOk a.Args then bif decide ((0:Int)≤a.N∧a.N≤(100000:Int)) then Lf [DV.one (Cell.lit (Value.bool x0))] [DV.one (Cell.lit (Value.bool (actOk a)))] else Lf [DV.one (Cell.lit (Value.bool false))] [DV.one (Cell.lit (Value.bool (actOk a)))] else Lf [DV.one (Cell.lit (Value.bool false))] [DV.one (Cell.lit (Value.bool (actOk a)))] else Lf [DV.one (Cell.lit (Value.bool false))] [DV.one (Cell.lit (Value.bool (actOk a)))] else bif a.Kind==(2:Int) then bif x0 then Lf [DV.one (Cell.lit (Value.bool (decide ((0:Int)≤a.N∧a.N≤(7:Int)))))] [DV.one (Cell.lit (Value.bool (actOk a)))] else Lf [DV.one (Cell.lit (Value.bool false))] [DV.one (Cell.lit (Value.bool (actOk a)))] else bif x1 then bif x1 then bif x0 then Lf [DV.one (Cell.lit (Value.bool x2))] [DV.one (Cell.lit (Value.bool (actOk a)))] else Lf [DV.one (Cell.lit (Value.bool false))] [DV.one (Cell.lit (Value.bool (actOk a)))] else Lf [DV.one (Cell.lit (Value.bool false))] [DV.one (Cell.lit (Value.bool (actOk a)))] else bif a.Kind==(6:Int) then bif x0 then Lf [DV.one (Cell.lit (Value.bool x2))] [DV.one (Cell.lit (Value.bool (actOk a)))] else Lf [DV.one (Cell.lit (Value.bool false))] [DV.one (Cell.lit (Value.bool (actOk a)))] else Lf [DV.one (Cell.lit (Value.bool false))] [DV.one (Cell.lit (Value.bool (actOk a)))] else bif a.Kind==(1:Int) then bif nameOk a.Name then bif exprsOk a.Args then bif x2 then Lf [DV.one (Cell.lit (Value.bool x0))] [DV.one (Cell.lit (Value.bool (actOk a)))] else Lf [DV.one (Cell.lit (Value.bool false))] [DV.one (Cell.lit (Value.bool (actOk a)))] else Lf [DV.one (Cell.lit (Value.bool false))] [DV.one (Cell.lit (Value.bool (actOk a)))] else Lf [DV.one (Cell.lit (Value.bool false))] [DV.one (Cell.lit (Value.bool (actOk a)))] else bif a.Kind==(3:Int) then bif nameOk a.Name then bif exprsOk a.Args then bif x2 then bif x0 then Lf [DV.one (Cell.lit (Value.bool true))] [DV.one (Cell.lit (Value.bool (actOk a)))] else Lf [DV.one (Cell.lit (Value.bool (nameOk a.Undo)))] [DV.one (Cell.lit (Value.bool (actOk a)))] else Lf [DV.one (Cell.lit (Value.bool false))] [DV.one (Cell.lit (Value.bool (actOk a)))] else Lf [DV.one (Cell.lit (Value.bool false))] [DV.one (Cell.lit (Value.bool (actOk a)))] else Lf [DV.one (Cell.lit (Value.bool false))] [DV.one (Cell.lit (Value.bool (actOk a)))] else bif a.Kind==(4:Int) then bif nameOk a.Name then bif exprsOk a.Args then bif decide ((0:Int)≤a.N∧a.N≤(100000:Int)) then Lf [DV.one (Cell.lit (Value.bool x0))] [DV.one (Cell.lit (Value.bool (actOk a)))] else Lf [DV.one (Cell.lit (Value.bool false))] [DV.one (Cell.lit (Value.bool (actOk a)))] else Lf [DV.one (Cell.lit (Value.bool false))] [DV.one (Cell.lit (Value.bool (actOk a)))] else Lf [DV.one (Cell.lit (Value.bool false))] [DV.one (Cell.lit (Value.bool (actOk a)))] else bif a.Kind==(2:Int) then Lf [DV.one (Cell.lit (Value.bool false))] [DV.one (Cell.lit (Value.bool (actOk a)))] else bif x1 then bif x1 then Lf [DV.one (Cell.lit (Value.bool false))] [DV.one (Cell.lit (Value.bool (actOk a)))] else Lf [DV.one (Cell.lit (Value.bool false))] [DV.one (Cell.lit (Value.bool (actOk a)))] else bif a.Kind==(6:Int) then Lf [DV.one (Cell.lit (Value.bool false))] [DV.one (Cell.lit (Value.bool (actOk a)))] else Lf [DV.one (Cell.lit (Value.bool false))] [DV.one (Cell.lit (Value.bool (actOk a)))] else bif a.Kind==(1:Int) then bif nameOk a.Name then bif exprsOk a.Args then bif x2 then Lf [DV.one (Cell.lit (Value.bool x0))] [DV.one (Cell.lit (Value.bool (actOk a)))] else Lf [DV.one (Cell.lit (Value.bool false))] [DV.one (Cell.lit (Value.bool (actOk a)))] else Lf [DV.one (Cell.lit (Value.bool false))] [DV.one (Cell.lit (Value.bool (actOk a)))] else Lf [DV.one (Cell.lit (Value.bool false))] [DV.one (Cell.lit (Value.bool (actOk a)))] else bif a.Kind==(3:Int) then bif nameOk a.Name then bif exprsOk a.Args then bif x2 then bif x0 then Lf [DV.one (Cell.lit (Value.bool true))] [DV.one (Cell.lit (Value.bool (actOk a)))] else Lf [DV.one (Cell.lit (Value.bool (nameOk a.Undo)))] [DV.one (Cell.lit (Value.bool (actOk a)))] else Lf [DV.one (Cell.lit (Value.bool false))] [DV.one (Cell.lit (Value.bool (actOk a)))] else Lf [DV.one (Cell.lit (Value.bool false))] [DV.one (Cell.lit (Value.bool (actOk a)))] else Lf [DV.one (Cell.lit (Value.bool false))] [DV.one (Cell.lit (Value.bool (actOk a)))] else bif a.Kind==(4:Int) then bif nameOk a.Name then bif exprsOk a.Args then bif decide ((0:Int)≤a.N∧a.N≤(100000:Int)) then Lf [DV.one (Cell.lit (Value.bool x0))] [DV.one (Cell.lit (Value.bool (actOk a)))] else Lf [DV.one (Cell.lit (Value.bool false))] [DV.one (Cell.lit (Value.bool (actOk a)))] else Lf [DV.one (Cell.lit (Value.bool false))] [DV.one (Cell.lit (Value.bool (actOk a)))] else Lf [DV.one (Cell.lit (Value.bool false))] [DV.one (Cell.lit (Value.bool (actOk a)))] else bif a.Kind==(2:Int) then Lf [DV.one (Cell.lit (Value.bool false))] [DV.one (Cell.lit (Value.bool (actOk a)))] else bif x1 then bif x1 then Lf [DV.one (Cell.lit (Value.bool false))] [DV.one (Cell.lit (Value.bool (actOk a)))] else Lf [DV.one (Cell.lit (Value.bool false))] [DV.one (Cell.lit (Value.bool (actOk a)))] else bif a.Kind==(6:Int) then Lf [DV.one (Cell.lit (Value.bool false))] [DV.one (Cell.lit (Value.bool (actOk a)))] else Lf [DV.one (Cell.lit (Value.bool false))] [DV.one (Cell.lit (Value.bool (actOk a)))]):=by kernel_rfl
theorem Zo210:Holds EE (210,Zk210):=by
 refine holds_of EE_ok Go.Proofs.Tryz.func210 Zk210 (by kernel_rfl) Zu210 (us_ok _) Za210 (fun(a:DAct) hp hb=> ?_)
 have hz0:=bd_eAct (x:=a) (hb _ m0)
 have hl_a_Name:=hz0.1
 have hl_a_Args:=hz0.2.1
 have hl_a_Undo:=hz0.2.2
 clear hp hb
 rw[Zv210 a]
 dsimp only
 have e:∀s:ByteArray,(ByteArray.toList s==ByteArray.toList {data:= #[]})=decide (s=noBytes):=fun s=>toList_beq _ _
 simp only[e,actOk,bareA,undoOk]
 repeat' (refine if_cond (fun h=> ?_) (fun h=> ?_))
 all_goals (refine Lf_b ?_;grind)
def Zh210:HH:=⟨_,Zo210⟩
def Zk176:Con UU where
 α:=DAct
 md:=[.ro]
 of:=o1 (oA .eAct)
 ds:=fun x=>[dA .eAct x]
 pre:=fun _=>[]
 res:=fun a=>⟨[.one (.lit (.bool (actOk a)))],true,[]⟩
 law:=l1 (lA .eAct)
def Za176:Zk176.α→Nat→Option (Ann UU):=fun a=>annL []
def Zu176:=us [Zh56,Zh218,Zh184]
theorem Zv176(a:DAct):goal EE Zu176 Go.Proofs.Tryz.f176 Zk176 Za176 a=(let x0:Bool:=a.Kind==(5:Int);
let x1:Bool:=nameOk a.Name&&exprsOk a.Args;
bif ByteArray.toList a.Name==ByteArray.toList {data:= #[]:ByteArray} then bif a.Kind==(1:Int) then bif x1 then bif a.N==(0:Int) then Lf [DV.one (Cell.lit (Value.bool (ByteArray.toList a.Undo==ByteArray.toList {data:= #[]:ByteArray})))] [DV.one (Cell.lit (Value.bool (actOk a)))] else Lf [DV.one (Cell.lit (Value.bool false))] [DV.one (Cell.lit (Value.bool (actOk a)))] else Lf [DV.one (Cell.lit (Value.bool false))] [DV.one (Cell.lit (Value.bool (actOk a)))] else bif a.Kind==(2:Int) then bif (↑(List.length a.Args):Int)==(0:Int) then bif decide ((0:Int)≤a.N∧a.N≤(7:Int)) then Lf [DV.one (Cell.lit (Value.bool (ByteArray.toList a.Undo==ByteArray.toList {data:= #[]:ByteArray})))] [DV.one (Cell.lit (Value.bool (actOk a)))] else Lf [DV.one (Cell.lit (Value.bool false))] [DV.one (Cell.lit (Value.bool (actOk a)))] else Lf [DV.one (Cell.lit (Value.bool false))] [DV.one (Cell.lit (Value.bool (actOk a)))] else bif a.Kind==(3:Int) then bif x1 then bif a.N==(0:Int) then Lf [DV.one (Cell.lit (Value.bool (undoOk a.Undo)))] [DV.one (Cell.lit (Value.bool (actOk a)))] else Lf [DV.one (Cell.lit (Value.bool false))] [DV.one (Cell.lit (Value.bool (actOk a)))] else Lf [DV.one (Cell.lit (Value.bool false))] [DV.one (Cell.lit (Value.bool (actOk a)))] else bif a.Kind==(4:Int) then bif x1 then bif decide ((0:Int)≤a.N∧a.N≤(100000:Int)) then Lf [DV.one (Cell.lit (Value.bool (ByteArray.toList a.Undo==ByteArray.toList {data:= #[]:ByteArray})))] [DV.one (Cell.lit (Value.bool (actOk a)))] else Lf [DV.one (Cell.lit (Value.bool false))] [DV.one (Cell.lit (Value.bool (actOk a)))] else Lf [DV.one (Cell.lit (Value.bool false))] [DV.one (Cell.lit (Value.bool (actOk a)))] else bif x0 then bif x0 then bif (↑(List.length a.Args):Int)==(0:Int) then bif a.N==(0:Int) then Lf [DV.one (Cell.lit (Value.bool (ByteArray.toList a.Undo==ByteArray.toList {data:= #[]:ByteArray})))] [DV.one (Cell.lit (Value.bool (actOk a)))] else Lf [DV.one (Cell.lit (Value.bool false))] [DV.one (Cell.lit (Value.bool (actOk a)))] else Lf [DV.one (Cell.lit (Value.bool false))] [DV.one (Cell.lit (Value.bool (actOk a)))] else Lf [DV.one (Cell.lit (Value.bool false))] [DV.one (Cell.lit (Value.bool (actOk a)))] else bif a.Kind==(6:Int) then bif (↑(List.length a.Args):Int)==(0:Int) then bif a.N==(0:Int) then Lf [DV.one (Cell.lit (Value.bool (ByteArray.toList a.Undo==ByteArray.toList {data:= #[]:ByteArray})))] [DV.one (Cell.lit (Value.bool (actOk a)))] else Lf [DV.one (Cell.lit (Value.bool false))] [DV.one (Cell.lit (Value.bool (actOk a)))] else Lf [DV.one (Cell.lit (Value.bool false))] [DV.one (Cell.lit (Value.bool (actOk a)))] else Lf [DV.one (Cell.lit (Value.bool false))] [DV.one (Cell.lit (Value.bool (actOk a)))] else bif a.Kind==(1:Int) then bif x1 then bif a.N==(0:Int) then Lf [DV.one (Cell.lit (Value.bool (ByteArray.toList a.Undo==ByteArray.toList {data:= #[]:ByteArray})))] [DV.one (Cell.lit (Value.bool (actOk a)))] else Lf [DV.one (Cell.lit (Value.bool false))] [DV.one (Cell.lit (Value.bool (actOk a)))] else Lf [DV.one (Cell.lit (Value.bool false))] [DV.one (Cell.lit (Value.bool (actOk a)))] else bif a.Kind==(2:Int) then Lf [DV.one (Cell.lit (Value.bool false))] [DV.one (Cell.lit (Value.bool (actOk a)))] else bif a.Kind==(3:Int) then bif x1 then bif a.N==(0:Int) then Lf [DV.one (Cell.lit (Value.bool (undoOk a.Undo)))] [DV.one (Cell.lit (Value.bool (actOk a)))] else Lf [DV.one (Cell.lit (Value.bool false))] [DV.one (Cell.lit (Value.bool (actOk a)))] else Lf [DV.one (Cell.lit (Value.bool false))] [DV.one (Cell.lit (Value.bool (actOk a)))] else bif a.Kind==(4:Int) then bif x1 then bif decide ((0:Int)≤a.N∧a.N≤(100000:Int)) then Lf [DV.one (Cell.lit (Value.bool (ByteArray.toList a.Undo==ByteArray.toList {data:= #[]:ByteArray})))] [DV.one (Cell.lit (Value.bool (actOk a)))] else Lf [DV.one (Cell.lit (Value.bool false))] [DV.one (Cell.lit (Value.bool (actOk a)))] else Lf [DV.one (Cell.lit (Value.bool false))] [DV.one (Cell.lit (Value.bool (actOk a)))] else bif x0 then bif x0 then Lf [DV.one (Cell.lit (Value.bool false))] [DV.one (Cell.lit (Value.bool (actOk a)))] else Lf [DV.one (Cell.lit (Value.bool false))] [DV.one (Cell.lit (Value.bool (actOk a)))] else bif a.Kind==(6:Int) then Lf [DV.one (Cell.lit (Value.bool false))] [DV.one (Cell.lit (Value.bool (actOk a)))] else Lf [DV.one (Cell.lit (Value.bool false))] [DV.one (Cell.lit (Value.bool (actOk a)))]):=by kernel_rfl
theorem Zo176:Holds EE (176,Zk176):=by
 refine holds_of EE_ok Go.Proofs.Tryz.func176 Zk176 (by kernel_rfl) Zu176 (us_ok _) Za176 (fun(a:DAct) hp hb=> ?_)
 have hz0:=bd_eAct (x:=a) (hb _ m0)
 have hl_a_Name:=hz0.1
 have hl_a_Args:=hz0.2.1
 have hl_a_Undo:=hz0.2.2
 clear hp hb
 rw[Zv176 a]
 dsimp only
 have e:∀s:ByteArray,(ByteArray.toList s==ByteArray.toList {data:= #[]})=decide (s=noBytes):=fun s=>toList_beq _ _
 simp only[e,actOk,bareA,undoOk]
 repeat' (refine if_cond (fun h=> ?_) (fun h=> ?_))
 all_goals (refine Lf_b ?_;grind)
def Zh176:HH:=⟨_,Zo176⟩
def hasS(l:List ByteArray)(s:ByteArray):Bool:=l.any fun t=>decide (t=s)
theorem hasS_iff{l:List ByteArray}{s:ByteArray}:hasS l s=true↔s∈l:=by
 simp only[hasS,List.any_eq_true,decide_eq_true_eq]
 exact⟨fun⟨t,h1,h2⟩=>h2▸h1,fun h=>⟨s,h,rfl⟩⟩
def addOnce(l:List ByteArray)(s:ByteArray):List ByteArray:=if hasS l s then l else l++[s]
def addVar(l:List ByteArray)(a:DArg):List ByteArray:=if a.K=1 then addOnce l a.S else l
def addVars(l:List ByteArray)(xs:List DArg):List ByteArray:=xs.foldl addVar l
theorem addOnce_mem{l:List ByteArray}{s t:ByteArray}:t∈addOnce l s↔t∈l∨t=s:=by
 unfold addOnce;split
 ·rename_i h
  exact⟨.inl,fun h'=>h'.elim id (fun e=>e▸hasS_iff.1 h)⟩
 ·simp
theorem addOnce_len(l:List ByteArray)(s:ByteArray):(addOnce l s).length≤l.length+1:=by
 unfold addOnce;split
 ·omega
 ·simp
theorem addVar_mem{l:List ByteArray}{a:DArg}{t:ByteArray}:t∈addVar l a↔t∈l∨(a.K=1∧t=a.S):=by
 unfold addVar;split
 ·rename_i h;rw[addOnce_mem];simp[h]
 ·rename_i h;simp[h]
theorem addVar_len(l:List ByteArray)(a:DArg):(addVar l a).length≤l.length+1:=by
 unfold addVar;split
 ·exact addOnce_len _ _
 ·omega
theorem addVars_mem{t:ByteArray}:∀{xs:List DArg}{l:List ByteArray},t∈addVars l xs↔t∈l∨∃a∈xs,a.K=1∧t=a.S
 |[],l=>by simp[addVars]
 |a::xs,l=>by
  show t∈addVars (addVar l a) xs↔_
  rw[addVars_mem,addVar_mem]
  simp only[List.mem_cons,exists_eq_or_imp,or_assoc]
theorem addVars_len:∀(xs:List DArg)(l:List ByteArray),(addVars l xs).length≤l.length+xs.length
 |[],l=>Nat.le_refl _
 |a::xs,l=>by
  have h1:=addVars_len xs (addVar l a)
  have h2:=addVar_len l a
  show(addVars (addVar l a) xs).length≤_
  simp only[List.length_cons];omega
theorem addVars_step(l:List ByteArray)(xs:List DArg){i:Int}(h0:0≤i)(h:i<xs.length):addVars l (xs.take (i+1).toNat)=addVar (addVars l (xs.take i.toNat)) (List.getD xs i.toNat zArg):=by
 rw[←take_step xs zArg h0 h]
 simp only[addVars,List.foldl_append,List.foldl_cons,List.foldl_nil]
def posVar(l:List ByteArray)(p:DPat):List ByteArray:=if p.Not then l else addVars l p.Args
def posVars(ps:List DPat):List ByteArray:=ps.foldl posVar []
theorem foldl_step{α β:Type}(f:β→α→β)(b:β)(l:List α)(z:α){i:Int}(h0:0≤i)(h:i<l.length):(l.take (i+1).toNat).foldl f b=f ((l.take i.toNat).foldl f b) (List.getD l i.toNat z):=by
 rw[←take_step l z h0 h]
 simp only[List.foldl_append,List.foldl_cons,List.foldl_nil]
def patArgs(ps:List DPat):Nat:=(ps.map fun p=>p.Args.length).sum
def isBound(ps:List DPat)(t:ByteArray):Prop:=∃p∈ps,p.Not=false∧∃a∈p.Args,a.K=1∧t=a.S
theorem posVar_mem{l:List ByteArray}{p:DPat}{t:ByteArray}:t∈posVar l p↔t∈l∨(p.Not=false∧∃a∈p.Args,a.K=1∧t=a.S):=by
 unfold posVar
 cases h:p.Not
 ·simp only[Bool.false_eq_true,if_false];rw[addVars_mem];simp
 ·simp
theorem posVars_mem0{t:ByteArray}:∀{ps:List DPat}{l:List ByteArray},t∈ps.foldl posVar l↔t∈l∨isBound ps t
 |[],l=>by simp[isBound]
 |p::ps,l=>by
  show t∈ps.foldl posVar (posVar l p)↔_
  rw[posVars_mem0,posVar_mem]
  simp only[isBound,List.mem_cons,exists_eq_or_imp,or_assoc]
theorem posVars_mem{ps:List DPat}{t:ByteArray}:t∈posVars ps↔isBound ps t:=by
 unfold posVars;rw[posVars_mem0];simp
theorem posVars_len0:∀(ps:List DPat)(l:List ByteArray),(ps.foldl posVar l).length≤l.length+patArgs ps
 |[],l=>Nat.le_refl _
 |p::ps,l=>by
  have h1:=posVars_len0 ps (posVar l p)
  have h2:(posVar l p).length≤l.length+p.Args.length:=by
   unfold posVar;split
   ·omega
   ·exact addVars_len _ _
  show(ps.foldl posVar (posVar l p)).length≤_
  simp only[patArgs,List.map_cons,List.sum_cons] at h1⊢;omega
def posVarS(l:List ByteArray)(p:DPat):List ByteArray:=if p.Not then l else(addVars [] p.Args).foldl addOnce l
def posVarsS(ps:List DPat):List ByteArray:=ps.foldl posVarS []
theorem foldOnce_mem{t:ByteArray}:∀{xs l:List ByteArray},t∈xs.foldl addOnce l↔t∈l∨t∈xs
 |[],l=>by simp
 |a::xs,l=>by
  show t∈xs.foldl addOnce (addOnce l a)↔_
  rw[foldOnce_mem,addOnce_mem,List.mem_cons,or_assoc]
theorem foldOnce_len:∀(xs l:List ByteArray),(xs.foldl addOnce l).length≤l.length+xs.length
 |[],l=>Nat.le_refl _
 |a::xs,l=>by
  have h1:=foldOnce_len xs (addOnce l a)
  have h2:=addOnce_len l a
  show(xs.foldl addOnce (addOnce l a)).length≤_
  simp only[List.length_cons];omega
theorem posVarS_mem{l:List ByteArray}{p:DPat}{t:ByteArray}:t∈posVarS l p↔t∈l∨(p.Not=false∧∃a∈p.Args,a.K=1∧t=a.S):=by
 unfold posVarS
 cases h:p.Not
 ·simp only[Bool.false_eq_true,if_false];rw[foldOnce_mem,addVars_mem];simp
 ·simp
theorem posVarsS_mem0{t:ByteArray}:∀{ps:List DPat}{l:List ByteArray},t∈ps.foldl posVarS l↔t∈l∨isBound ps t
 |[],l=>by simp[isBound]
 |p::ps,l=>by
  show t∈ps.foldl posVarS (posVarS l p)↔_
  rw[posVarsS_mem0,posVarS_mem]
  simp only[isBound,List.mem_cons,exists_eq_or_imp,or_assoc]
theorem posVarsS_mem{ps:List DPat}{t:ByteArray}:t∈posVarsS ps↔isBound ps t:=by
 unfold posVarsS;rw[posVarsS_mem0];simp
theorem posVarsS_len0:∀(ps:List DPat)(l:List ByteArray),(ps.foldl posVarS l).length≤l.length+patArgs ps
 |[],l=>Nat.le_refl _
 |p::ps,l=>by
  have h1:=posVarsS_len0 ps (posVarS l p)
  have h2:(posVarS l p).length≤l.length+p.Args.length:=by
   unfold posVarS;split
   ·omega
   ·have g1:=foldOnce_len (addVars [] p.Args) l
    have g2:=addVars_len p.Args []
    simp only[List.length_nil] at g2;omega
  show(ps.foldl posVarS (posVarS l p)).length≤_
  simp only[patArgs,List.map_cons,List.sum_cons] at h1⊢;omega
theorem patArgs_take(ps:List DPat)(n:Nat):patArgs (ps.take n)≤patArgs ps:=by
 have h:=congrArg (fun q=>(q.map fun p:DPat=>p.Args.length).sum) (List.take_append_drop n ps)
 simp only[List.map_append,List.sum_append] at h
 simp only[patArgs];omega
theorem patArgs_at(ps:List DPat){i:Int}(h0:0≤i)(h:i<ps.length):patArgs (ps.take i.toNat)+(List.getD ps i.toNat zPat).Args.length≤patArgs ps:=by
 have h1:=patArgs_take ps (i+1).toNat
 rw[←take_step ps zPat h0 h] at h1
 simp only[patArgs,List.map_append,List.sum_append,List.map_cons,List.map_nil,List.sum_cons,List.sum_nil] at h1⊢
 omega
def posN(ps:List DPat):Nat:=(ps.filter fun p=> !p.Not).length
theorem hasS_step{l:List ByteArray}{s:ByteArray}{i:Int}(h0:0≤i)(hl:i<l.length)(h:∀j:Nat,(j:Int)<i→¬List.getD l j noBytes=s)(hi:¬List.getD l i.toNat noBytes=s):∀j:Nat,(j:Int)<i+1→¬List.getD l j noBytes=s:=by
 intro j hj
 by_cases hji:(j:Int)<i
 ·exact h j hji
 ·have:j=i.toNat:=by omega
  subst this;exact hi
theorem hasS_no{l:List ByteArray}{s:ByteArray}(h:∀j:Nat,j<l.length→¬List.getD l j noBytes=s):hasS l s=false:=by
 rw[←Bool.not_eq_true,hasS_iff]
 intro hm
 obtain⟨j,hj,rfl⟩:=List.getElem_of_mem hm
 exact h j hj (by rw[List.getD_eq_getElem?_getD,List.getElem?_eq_getElem hj];rfl)
theorem hasS_yes{l:List ByteArray}{s:ByteArray}{j:Nat}(hj:j<l.length)(h:List.getD l j noBytes=s):hasS l s=true:=by
 rw[hasS_iff,←h,List.getD_eq_getElem?_getD,List.getElem?_eq_getElem hj]
 exact List.getElem_mem hj
theorem posN_step(ps:List DPat){i:Int}(h0:0≤i)(h:i<ps.length):posN (ps.take (i+1).toNat)=posN (ps.take i.toNat)+(if(!(List.getD ps i.toNat zPat).Not)=true then 1 else 0):=by
 rw[←take_step ps zPat h0 h]
 simp only[posN,List.filter_append,List.length_append,List.filter_cons,List.filter_nil]
 split<;>simp
theorem posN_le(ps:List DPat)(n:Nat):posN (ps.take n)≤n:=Nat.le_trans (List.length_filter_le _ _) (by simp;omega)
def Zk206:Con UU where
 α:=(List ByteArray)×ByteArray
 md:=[.ro,.ro]
 of:=oC (oL .str) (o1 oS)
 ds:=fun x=>[dL .str x.1,dS x.2]
 pre:=fun _=>[]
 res:=fun(l,s)=>⟨[.one (.lit (.bool (hasS l s)))],true,[]⟩
 law:=lC (lL .str) (l1 lS)
def Zi206_2(l:(List ByteArray))(s:ByteArray):Int×Unit→Prop:=fun(i,_)=>0≤i∧i≤l.length∧∀j:Nat,(j:Int)<i→¬List.getD l j noBytes=s
def Zm206_2(l:(List ByteArray))(s:ByteArray):Int×Unit→Nat:=fun(i,_)=>l.length-i.toNat
def Za206:Zk206.α→Nat→Option (Ann UU):=fun(l,s)=>annL [(2,annOf [.slot 5 (5,1024) (.lit (.int .i64))] (fun _=>Zi206_2 l s) (Zm206_2 l s))]
def Zu206:List (FuncId×Con UU):=[]
theorem Zv206(l:(List ByteArray))(s:ByteArray):goal EE Zu206 Go.Proofs.Tryz.f206 Zk206 Za206 (l,s)=(Zi206_2 l s ((0:Int),())∧∀(y:Int×PUnit),Zi206_2 l s y→bif decide (y.1<(l.length:Int)) then(0:Int)≤y.1∧y.1.toNat<l.length∧bif ByteArray.toList (List.getD l y.1.toNat noBytes)==ByteArray.toList s then Lb true (hasS l s) else Zi206_2 l s (IntKind.wrap IntKind.i64 (y.1+(1:Int)),())∧Zm206_2 l s (IntKind.wrap IntKind.i64 (y.1+(1:Int)),())<Zm206_2 l s y else Lb false (hasS l s)):=by kernel_rfl
theorem Zo206:Holds EE (206,Zk206):=by
 refine holds_of EE_ok Go.Proofs.Tryz.func206 Zk206 (by kernel_rfl) Zu206 all_nil Za206 (fun x hp hb=> ?_)
 obtain⟨l,s⟩:=x
 have hl_l:l.length≤9223372036854775807:=bdL (hb _ m0)
 have hl_s:=bdS (s:=s) (hb _ m1)
 clear hp hb
 rw[Zv206 l s]
 refine⟨⟨by omega,by omega,by intro j hj;omega⟩,?_⟩
 rintro⟨i,⟨⟩⟩ ⟨h1,h2,hR⟩
 simp only[toList_beq]
 refine if_cond (fun hc=> ?_) (fun hc=> ?_)
 ·have hc:=of_decide_eq_true hc
  rw[wrap_i64 (by omega) (by omega)]
  refine⟨by omega,by omega,if_cond (fun h=>Lf_tt (hasS_yes (j:=i.toNat) (by omega) (of_decide_eq_true h))) (fun h=>⟨⟨by omega,by omega,hasS_step h1 hc hR (of_decide_eq_false h)⟩,by simp only[Zm206_2];omega⟩)⟩
 ·have hc:=of_decide_eq_false hc
  exact Lf_ff (hasS_no fun j hj=>hR j (by omega))
def Zh206:HH:=⟨_,Zo206⟩
def Zk220:Con UU where
 α:=(List ByteArray)×ByteArray
 md:=[.ro,.ro]
 of:=oC (oL .str) (o1 oS)
 ds:=fun x=>[dL .str x.1,dS x.2]
 pre:=fun _=>[]
 res:=fun(l,s)=>⟨[.one (.lit (.int .i64 (idxI l.length (fun j=>decide (List.getD l j noBytes=s)))))],true,[]⟩
 law:=lC (lL .str) (l1 lS)
def Zi220_2(l:(List ByteArray))(s:ByteArray):Int×Unit→Prop:=fun(i,_)=>0≤i∧i≤l.length∧∀j:Nat,(j:Int)<i→¬List.getD l j noBytes=s
def Zm220_2(l:(List ByteArray))(s:ByteArray):Int×Unit→Nat:=fun(i,_)=>l.length-i.toNat
def Za220:Zk220.α→Nat→Option (Ann UU):=fun(l,s)=>annL [(2,annOf [.slot 8 (8,1024) (.lit (.int .i64))] (fun _=>Zi220_2 l s) (Zm220_2 l s))]
def Zu220:List (FuncId×Con UU):=[]
theorem Zv220(l:(List ByteArray))(s:ByteArray):goal EE Zu220 Go.Proofs.Tryz.f220 Zk220 Za220 (l,s)=(Zi220_2 l s ((0:Int),())∧∀(y:Int×PUnit),Zi220_2 l s y→bif decide (y.1<(l.length:Int)) then(0:Int)≤y.1∧y.1.toNat<l.length∧bif ByteArray.toList s==ByteArray.toList (List.getD l y.1.toNat noBytes) then Li y.1 (idxI (l.length) fun(j:Nat)=>decide (List.getD l j noBytes=s)) else Zi220_2 l s (IntKind.wrap IntKind.i64 (y.1+(1:Int)),())∧Zm220_2 l s (IntKind.wrap IntKind.i64 (y.1+(1:Int)),())<Zm220_2 l s y else Li (-1:Int) (idxI (l.length) fun(j:Nat)=>decide (List.getD l j noBytes=s))):=by kernel_rfl
theorem Zo220:Holds EE (220,Zk220):=by
 refine holds_of EE_ok Go.Proofs.Tryz.func220 Zk220 (by kernel_rfl) Zu220 all_nil Za220 (fun x hp hb=> ?_)
 obtain⟨l,s⟩:=x
 have hl_l:l.length≤9223372036854775807:=bdL (hb _ m0)
 have hl_s:=bdS (s:=s) (hb _ m1)
 clear hp hb
 rw[Zv220 l s]
 refine⟨⟨by omega,by omega,by intro j hj;omega⟩,?_⟩
 rintro⟨i,⟨⟩⟩ ⟨h1,h2,hR⟩
 simp only[toList_beq]
 refine if_cond (fun hc=> ?_) (fun hc=> ?_)
 ·have hc:=of_decide_eq_true hc
  rw[wrap_i64 (by omega) (by omega)]
  refine⟨by omega,by omega,if_cond (fun h=>Lf_i ?_) (fun h=>⟨⟨by omega,by omega,hasS_step h1 hc hR (fun e=>of_decide_eq_false h e.symm)⟩,by simp only[Zm220_2];omega⟩)⟩
  rw[idxI_found (i:=i.toNat) (by omega) (decide_eq_true (of_decide_eq_true h).symm) (fun j hj=>decide_eq_false (hR j (by omega)))]
  omega
 ·have hc:=of_decide_eq_false hc
  exact Lf_i (idxI_none (fun j hj=>decide_eq_false (hR j (by omega)))).symm
def Zh220:HH:=⟨_,Zo220⟩
def Zk179:Con UU where
 α:=(List ByteArray)×ByteArray
 md:=[.ro,.ro]
 of:=oC (oL .str) (o1 oS)
 ds:=fun x=>[dL .str x.1,dS x.2]
 pre:=fun _=>[]
 res:=fun(l,s)=>⟨[.one (.lit (.bool (hasS l s)))],true,[]⟩
 law:=lC (lL .str) (l1 lS)
def Za179:Zk179.α→Nat→Option (Ann UU):=fun(l,s)=>annL []
def Zu179:=us [Zh220]
theorem Zv179(l:(List ByteArray))(s:ByteArray):goal EE Zu179 Go.Proofs.Tryz.f179 Zk179 Za179 (l,s)=(let x0:Int:=idxI (l.length) fun(j:Nat)=>decide (List.getD l j noBytes=s);
Lf [DV.one (Cell.lit (Value.bool (decide (x0≥(0:Int)))))] [DV.one (Cell.lit (Value.bool (hasS l s)))]):=by kernel_rfl
theorem Zo179:Holds EE (179,Zk179):=by
 refine holds_of EE_ok Go.Proofs.Tryz.func179 Zk179 (by kernel_rfl) Zu179 (us_ok _) Za179 (fun x hp hb=> ?_)
 obtain⟨l,s⟩:=x
 have hl_l:l.length≤9223372036854775807:=bdL (hb _ m0)
 have hl_s:=bdS (s:=s) (hb _ m1)
 clear hp hb
 rw[Zv179 l s]
 dsimp only
 refine Lf_b ?_
 show decide (0≤idxI l.length (fun j=>decide (List.getD l j noBytes=s)))=_
 rw[idxI_ge]
 by_cases h:hasS l s=true
 ·rw[h]
  obtain⟨j,hj,hs⟩:=List.getElem_of_mem (hasS_iff.1 h)
  exact anyI_true hj (decide_eq_true (by rw[List.getD_eq_getElem?_getD,List.getElem?_eq_getElem hj];exact hs))
 ·rw[Bool.not_eq_true] at h
  rw[h]
  exact anyI_false fun j hj=>decide_eq_false fun e=>absurd (hasS_yes hj e) (by rw[h];decide)
def Zh179:HH:=⟨_,Zo179⟩
def Zk83:Con UU where
 α:=DRule
 md:=[.ro]
 of:=o1 (oA .eRule)
 ds:=fun x=>[dA .eRule x]
 pre:=fun _=>[]
 res:=fun r=>⟨[.one (.lit (.int .i64 (posN r.Pats:Int)))],true,[]⟩
 law:=l1 (lA .eRule)
def Zi83_3(r:DRule):Int×Int×(ByteArray×Int×List DPat×List DCond×List DAct×Unit)×Unit→Prop:=fun(n,i,b,_)=>b=(r.Name,r.Sal,r.Pats,r.Conds,r.Acts,())∧0≤i∧i≤r.Pats.length∧n=posN (r.Pats.take i.toNat)
def Zm83_3(r:DRule):Int×Int×(ByteArray×Int×List DPat×List DCond×List DAct×Unit)×Unit→Nat:=fun(n,i,b,_)=>r.Pats.length-i.toNat
def Za83:Zk83.α→Nat→Option (Ann UU):=fun r=>annL [(3,annOf [.slot 3 (3,1024) (.lit (.int .i64)),.slot 4 (4,1024) (.lit (.int .i64)),.box 1 (1,1024) [.lit .str,.lit (.int .i64),.shr .ePat,.shr .eCond,.shr .eAct]] (fun _=>Zi83_3 r) (Zm83_3 r))]
def Zu83:List (FuncId×Con UU):=[]
theorem Zv83(r:DRule):goal EE Zu83 Go.Proofs.Tryz.f83 Zk83 Za83 r=(Zi83_3 r ((0:Int),(0:Int),(r.Name,r.Sal,r.Pats,r.Conds,r.Acts,()),())∧
 ∀(y:Int×Int×(ByteArray×Int×List DPat×List DCond×List DAct×PUnit)×PUnit),
  let x1:Nat:=List.length y.2.2.1.2.2.1;
  let x2:Nat:=Int.toNat y.2.1;
  let x0:Int:=(↑x1:Int);
  Zi83_3 r y→bif decide (y.2.1<x0) then(0:Int)≤y.2.1∧x2<x1∧bif !(List.getD y.2.2.1.2.2.1 x2 zPat).Not then Zi83_3 r (IntKind.wrap IntKind.i64 (y.1+(1:Int)),IntKind.wrap IntKind.i64 (y.2.1+(1:Int)),(y.2.2.1.1,y.2.2.1.2.1,y.2.2.1.2.2.1,y.2.2.1.2.2.2.1,y.2.2.1.2.2.2.2.1,PUnit.unit),PUnit.unit)∧Zm83_3 r (IntKind.wrap IntKind.i64 (y.1+(1:Int)),IntKind.wrap IntKind.i64 (y.2.1+(1:Int)),(y.2.2.1.1,y.2.2.1.2.1,y.2.2.1.2.2.1,y.2.2.1.2.2.2.1,y.2.2.1.2.2.2.2.1,PUnit.unit),PUnit.unit)<Zm83_3 r y else Zi83_3 r (y.1,IntKind.wrap IntKind.i64 (y.2.1+(1:Int)),(y.2.2.1.1,y.2.2.1.2.1,y.2.2.1.2.2.1,y.2.2.1.2.2.2.1,y.2.2.1.2.2.2.2.1,PUnit.unit),PUnit.unit)∧Zm83_3 r (y.1,IntKind.wrap IntKind.i64 (y.2.1+(1:Int)),(y.2.2.1.1,y.2.2.1.2.1,y.2.2.1.2.2.1,y.2.2.1.2.2.2.1,y.2.2.1.2.2.2.2.1,PUnit.unit),PUnit.unit)<Zm83_3 r y else Lf [DV.one (Cell.lit (Value.int IntKind.i64 y.1))] [DV.one (Cell.lit (Value.int IntKind.i64 (↑(posN r.Pats):Int)))]):=by kernel_rfl
theorem Zo83:Holds EE (83,Zk83):=by
 refine holds_of EE_ok Go.Proofs.Tryz.func83 Zk83 (by kernel_rfl) Zu83 all_nil Za83 (fun(r:DRule) hp hb=> ?_)
 have hz0:=bd_eRule (x:=r) (hb _ m0)
 have hl_r_Name:=hz0.1
 have hl_r_Pats:=hz0.2.1
 have hl_r_Conds:=hz0.2.2.1
 have hl_r_Acts:=hz0.2.2.2
 clear hp hb
 rw[Zv83 r]
 dsimp only
 refine⟨⟨rfl,by omega,by omega,rfl⟩,?_⟩
 rintro⟨n,i,⟨b1,b2,b3,b4,b5,⟨⟩⟩,⟨⟩⟩ ⟨hbx,h1,h2,rfl⟩
 cases hbx
 simp only
 refine if_cond (fun hc=> ?_) (fun hc=> ?_)
 ·have hc:=of_decide_eq_true hc
  have hs:=posN_step r.Pats h1 hc
  have hle:posN (r.Pats.take i.toNat)≤i.toNat:=posN_le _ _
  rw[wrap_i64 (n:=i+1) (by omega) (by omega),wrap_i64 (n:=(posN (r.Pats.take i.toNat):Int)+1) (by omega) (by omega)]
  have hm:i.toNat<r.Pats.length:=by omega
  refine⟨by omega,by omega,if_cond (fun h=>⟨⟨rfl,by omega,by omega,?_⟩,by simp only[Zm83_3];omega⟩) (fun h=>⟨⟨rfl,by omega,by omega,?_⟩,by simp only[Zm83_3];omega⟩)⟩
  ·rw[hs,if_pos h];omega
  ·rw[hs,if_neg (by rw[h];decide)];omega
 ·have hc:=of_decide_eq_false hc
  rw[take_all r.Pats (by omega)]
  exact Lf_rfl _
def Zh83:HH:=⟨_,Zo83⟩
def Zk125:Con UU where
 α:=DRule
 md:=[.ro]
 of:=o1 (oA .eRule)
 ds:=fun x=>[dA .eRule x]
 pre:=fun _=>[]
 res:=fun r=>⟨[.one (.lit (.int .i64 (posN r.Pats:Int)))],true,[]⟩
 law:=l1 (lA .eRule)
def Zi125_3(r:DRule):Int×Int×Unit→Prop:=fun(n,i,_)=>0≤i∧i≤r.Pats.length∧n=posN (r.Pats.take i.toNat)
def Zm125_3(r:DRule):Int×Int×Unit→Nat:=fun(n,i,_)=>r.Pats.length-i.toNat
def Za125:Zk125.α→Nat→Option (Ann UU):=fun r=>annL [(3,annOf [.slot 3 (3,1024) (.lit (.int .i64)),.slot 9 (9,1024) (.lit (.int .i64))] (fun _=>Zi125_3 r) (Zm125_3 r))]
def Zu125:List (FuncId×Con UU):=[]
theorem Zv125(r:DRule):goal EE Zu125 Go.Proofs.Tryz.f125 Zk125 Za125 r=(Zi125_3 r ((0:Int),(0:Int),())∧
 ∀(y:Int×Int×PUnit),
  let x0:Nat:=Int.toNat y.2.1;
  Zi125_3 r y→bif decide (y.2.1<(↑(List.length r.Pats):Int)) then(0:Int)≤y.2.1∧x0<List.length r.Pats∧bif !(List.getD r.Pats x0 zPat).Not then Zi125_3 r (IntKind.wrap IntKind.i64 (y.1+(1:Int)),IntKind.wrap IntKind.i64 (y.2.1+(1:Int)),PUnit.unit)∧Zm125_3 r (IntKind.wrap IntKind.i64 (y.1+(1:Int)),IntKind.wrap IntKind.i64 (y.2.1+(1:Int)),PUnit.unit)<Zm125_3 r y else Zi125_3 r (y.1,IntKind.wrap IntKind.i64 (y.2.1+(1:Int)),PUnit.unit)∧Zm125_3 r (y.1,IntKind.wrap IntKind.i64 (y.2.1+(1:Int)),PUnit.unit)<Zm125_3 r y else Lf [DV.one (Cell.lit (Value.int IntKind.i64 y.1))] [DV.one (Cell.lit (Value.int IntKind.i64 (↑(posN r.Pats):Int)))]):=by kernel_rfl
theorem Zo125:Holds EE (125,Zk125):=by
 refine holds_of EE_ok Go.Proofs.Tryz.func125 Zk125 (by kernel_rfl) Zu125 all_nil Za125 (fun(r:DRule) hp hb=> ?_)
 have hz0:=bd_eRule (x:=r) (hb _ m0)
 have hl_r_Name:=hz0.1
 have hl_r_Pats:=hz0.2.1
 have hl_r_Conds:=hz0.2.2.1
 have hl_r_Acts:=hz0.2.2.2
 clear hp hb
 rw[Zv125 r]
 dsimp only
 refine⟨⟨by omega,by omega,rfl⟩,?_⟩
 rintro⟨n,i,⟨⟩⟩ ⟨h1,h2,rfl⟩
 simp only
 refine if_cond (fun hc=> ?_) (fun hc=> ?_)
 ·have hc:=of_decide_eq_true hc
  have hs:=posN_step r.Pats h1 hc
  have hle:posN (r.Pats.take i.toNat)≤i.toNat:=posN_le _ _
  rw[wrap_i64 (n:=i+1) (by omega) (by omega),wrap_i64 (n:=(posN (r.Pats.take i.toNat):Int)+1) (by omega) (by omega)]
  have hm:i.toNat<r.Pats.length:=by omega
  refine⟨by omega,by omega,if_cond (fun h=>⟨⟨by omega,by omega,?_⟩,by simp only[Zm125_3];omega⟩) (fun h=>⟨⟨by omega,by omega,?_⟩,by simp only[Zm125_3];omega⟩)⟩
  ·rw[hs,if_pos h];omega
  ·rw[hs,if_neg (by rw[h];decide)];omega
 ·have hc:=of_decide_eq_false hc
  rw[take_all r.Pats (by omega)]
  exact Lf_rfl _
def Zh125:HH:=⟨_,Zo125⟩
def Zk205:Con UU where
 α:=DPat
 md:=[.ro]
 of:=o1 (oA .ePat)
 ds:=fun x=>[dA .ePat x]
 pre:=fun p=>[p.Args.length≤4294967296]
 res:=fun p=>⟨[.one (.sl .str (addVars [] p.Args))],true,[]⟩
 law:=l1 (lA .ePat)
def Zi205_3(p:DPat):List ByteArray×Int×(ByteArray×List DArg×Bool×Unit)×Unit→Prop:=fun(l,i,b,_)=>b=(p.Kind,p.Args,p.Not,())∧0≤i∧i≤p.Args.length∧l=addVars [] (p.Args.take i.toNat)
def Zm205_3(p:DPat):List ByteArray×Int×(ByteArray×List DArg×Bool×Unit)×Unit→Nat:=fun(l,i,b,_)=>p.Args.length-i.toNat
def Za205:Zk205.α→Nat→Option (Ann UU):=fun p=>annL [(3,annOf [.slot 3 (3,1024) (.own .str true),.slot 4 (4,1024) (.lit (.int .i64)),.box 1 (1,1024) [.lit .str,.shr .eArg,.lit .bool]] (fun _=>Zi205_3 p) (Zm205_3 p))]
def Zu205:=us [Zh206]
theorem Zv205(p:DPat):goal EE Zu205 Go.Proofs.Tryz.f205 Zk205 Za205 p=(Zi205_3 p ([],(0:Int),(p.Kind,p.Args,p.Not,()),())∧
 ∀(y:List ByteArray×Int×(ByteArray×List DArg×Bool×PUnit)×PUnit),
  let x4:Nat:=List.length y.2.2.1.2.1;
  let x5:Nat:=Int.toNat y.2.1;
  let x2:DArg:=List.getD y.2.2.1.2.1 x5 zArg;
  let x3:Int:=(↑x4:Int);
  let x1:ByteArray:=x2.S;
  let x0:List ByteArray:=[x1];
  Zi205_3 p y→bif decide (y.2.1<x3) then(0:Int)≤y.2.1∧x5<x4∧bif x2.K==(1:Int) then(0:Int)≤y.2.1∧x5<x4∧bif !hasS y.1 x1 then(0:Int)≤y.2.1∧x5<x4∧List.length y.1+List.length x0≤(4294967296:Nat)∧Zi205_3 p (y.1++x0,IntKind.wrap IntKind.i64 (y.2.1+(1:Int)),(y.2.2.1.1,y.2.2.1.2.1,y.2.2.1.2.2.1,PUnit.unit),PUnit.unit)∧Zm205_3 p (y.1++x0,IntKind.wrap IntKind.i64 (y.2.1+(1:Int)),(y.2.2.1.1,y.2.2.1.2.1,y.2.2.1.2.2.1,PUnit.unit),PUnit.unit)<Zm205_3 p y else Zi205_3 p (y.1,IntKind.wrap IntKind.i64 (y.2.1+(1:Int)),(y.2.2.1.1,y.2.2.1.2.1,y.2.2.1.2.2.1,PUnit.unit),PUnit.unit)∧Zm205_3 p (y.1,IntKind.wrap IntKind.i64 (y.2.1+(1:Int)),(y.2.2.1.1,y.2.2.1.2.1,y.2.2.1.2.2.1,PUnit.unit),PUnit.unit)<Zm205_3 p y else Zi205_3 p (y.1,IntKind.wrap IntKind.i64 (y.2.1+(1:Int)),(y.2.2.1.1,y.2.2.1.2.1,y.2.2.1.2.2.1,PUnit.unit),PUnit.unit)∧Zm205_3 p (y.1,IntKind.wrap IntKind.i64 (y.2.1+(1:Int)),(y.2.2.1.1,y.2.2.1.2.1,y.2.2.1.2.2.1,PUnit.unit),PUnit.unit)<Zm205_3 p y else Lf [DV.one (Cell.sl Cd.str y.1)] [DV.one (Cell.sl Cd.str (addVars [] p.Args))]):=by kernel_rfl
theorem Zo205:Holds EE (205,Zk205):=by
 refine holds_of EE_ok Go.Proofs.Tryz.func205 Zk205 (by kernel_rfl) Zu205 (us_ok _) Za205 (fun(p:DPat) hp hb=> ?_)
 have hz0:=bd_ePat (x:=p) (hb _ m0)
 have hl_p_Kind:=hz0.1
 have hl_p_Args:=hz0.2
 have hp0:p.Args.length≤4294967296:=hp _ m0
 clear hp hb
 rw[Zv205 p]
 dsimp only
 refine⟨⟨rfl,by omega,by omega,rfl⟩,?_⟩
 rintro⟨l,i,⟨b1,b2,b3,⟨⟩⟩,⟨⟩⟩ ⟨hbx,h1,h2,rfl⟩
 cases hbx
 simp only
 refine if_cond (fun hc=> ?_) (fun hc=> ?_)
 ·have hc:=of_decide_eq_true hc
  have hs:=addVars_step [] p.Args h1 hc
  have hl:=addVars_len (p.Args.take i.toNat) []
  have hl2:(p.Args.take i.toNat).length≤i.toNat:=by rw[List.length_take];omega
  simp only[List.length_nil] at hl
  rw[wrap_i64 (by omega) (by omega)]
  have hm:∀x:List ByteArray,Zm205_3 p (x,i+1,(p.Kind,p.Args,p.Not,PUnit.unit),PUnit.unit)<Zm205_3 p (addVars [] (p.Args.take i.toNat),i,(p.Kind,p.Args,p.Not,PUnit.unit),PUnit.unit):=fun x=>by simp only[Zm205_3];omega
  refine⟨by omega,by omega,if_cond (fun h=>⟨by omega,by omega,if_cond (fun g=>⟨by omega,by omega,by simp;omega,⟨rfl,by omega,by omega,?_⟩,hm _⟩) (fun g=>⟨⟨rfl,by omega,by omega,?_⟩,hm _⟩)⟩) (fun h=>⟨⟨rfl,by omega,by omega,?_⟩,hm _⟩)⟩
  ·rw[hs,addVar,if_pos (eq_of_beq h),addOnce,if_neg (by simpa using g)]
  ·rw[hs,addVar,if_pos (eq_of_beq h),addOnce,if_pos (by simpa using g)]
  ·rw[hs,addVar,if_neg (fun e=>by rw[e] at h;simp at h)]
 ·have hc:=of_decide_eq_false hc
  rw[take_all p.Args (by omega)]
  exact Lf_rfl _
def Zh205:HH:=⟨_,Zo205⟩
def Zk159:Con UU where
 α:=DRule
 md:=[.ro]
 of:=o1 (oA .eRule)
 ds:=fun x=>[dA .eRule x]
 pre:=fun r=>[patArgs r.Pats≤4294967296]
 res:=fun r=>⟨[.one (.sl .str (posVarsS r.Pats))],true,[]⟩
 law:=l1 (lA .eRule)
def Zi159_3(r:DRule):List ByteArray×Int×(ByteArray×Int×List DPat×List DCond×List DAct×Unit)×Unit→Prop:=fun(l,i,b,_)=>b=(r.Name,r.Sal,r.Pats,r.Conds,r.Acts,())∧0≤i∧i≤r.Pats.length∧l=posVarsS (r.Pats.take i.toNat)
def Zm159_3(r:DRule):List ByteArray×Int×(ByteArray×Int×List DPat×List DCond×List DAct×Unit)×Unit→Nat:=fun(l,i,b,_)=>r.Pats.length-i.toNat
def Zi159_7(r:DRule):List ByteArray×Int×List ByteArray×Int×(ByteArray×Int×List DPat×List DCond×List DAct×Unit)×Unit→List ByteArray×Int×List ByteArray×Int×(ByteArray×Int×List DPat×List DCond×List DAct×Unit)×Unit→Prop:=fun(l0,i0,v0,k0,b0,_) (l,i,v,k,b,_)=>b=(r.Name,r.Sal,r.Pats,r.Conds,r.Acts,())∧i=i0∧v=v0∧0≤k∧k≤v.length∧l=(v.take k.toNat).foldl addOnce l0∧(k=0∨(List.getD r.Pats i.toNat zPat).Not=false)
def Zm159_7(r:DRule):List ByteArray×Int×List ByteArray×Int×(ByteArray×Int×List DPat×List DCond×List DAct×Unit)×Unit→Nat:=fun(l,i,v,k,b,_)=>v.length-k.toNat
def Za159:Zk159.α→Nat→Option (Ann UU):=fun r=>annL [(3,annOf [.slot 3 (3,1024) (.own .str true),.slot 4 (4,1024) (.lit (.int .i64)),.box 1 (1,1024) [.lit .str,.lit (.int .i64),.shr .ePat,.shr .eCond,.shr .eAct]] (fun _=>Zi159_3 r) (Zm159_3 r)),(7,annOf [.slot 3 (3,1024) (.own .str true),.slot 4 (4,1024) (.lit (.int .i64)),.slot 5 (5,1024) (.own .str true),.slot 6 (6,1024) (.lit (.int .i64)),.box 1 (1,1024) [.lit .str,.lit (.int .i64),.shr .ePat,.shr .eCond,.shr .eAct]] (Zi159_7 r) (Zm159_7 r))]
def Zu159:=us [Zh205,Zh206]
theorem Zv159(r:DRule):goal EE Zu159 Go.Proofs.Tryz.f159 Zk159 Za159 r=(Zi159_3 r ([],(0:Int),(r.Name,r.Sal,r.Pats,r.Conds,r.Acts,()),())∧
 ∀(y:List ByteArray×Int×(ByteArray×Int×List DPat×List DCond×List DAct×PUnit)×PUnit),
  let x2:Nat:=List.length y.2.2.1.2.2.1;
  let x3:Nat:=Int.toNat y.2.1;
  let x0:List DArg:=(List.getD y.2.2.1.2.2.1 x3 zPat).Args;
  let x1:Int:=(↑x2:Int);
  Zi159_3 r y→
   bif decide (y.2.1<x1) then
    (0:Int)≤y.2.1∧
     x3<x2∧
      List.length x0≤(4294967296:Nat)∧
       Zi159_7 r (y.1,y.2.1,addVars [] x0,(0:Int),(y.2.2.1.1,y.2.2.1.2.1,y.2.2.1.2.2.1,y.2.2.1.2.2.2.1,y.2.2.1.2.2.2.2.1,PUnit.unit),PUnit.unit) (y.1,y.2.1,addVars [] x0,(0:Int),(y.2.2.1.1,y.2.2.1.2.1,y.2.2.1.2.2.1,y.2.2.1.2.2.2.1,y.2.2.1.2.2.2.2.1,PUnit.unit),PUnit.unit)∧
        ∀(y_1:List ByteArray×Int×List ByteArray×Int×(ByteArray×Int×List DPat×List DCond×List DAct×PUnit)×PUnit),
         let x6:Nat:=Int.toNat y_1.2.2.2.1;
         let x8:Nat:=List.length y_1.2.2.1;
         let x9:Nat:=Int.toNat y_1.2.1;
         let x5:ByteArray:=List.getD y_1.2.2.1 x6 noBytes;
         let x7:Int:=(↑x8:Int);
         let x4:List ByteArray:=[x5];
         Zi159_7 r (y.1,y.2.1,addVars [] x0,(0:Int),(y.2.2.1.1,y.2.2.1.2.1,y.2.2.1.2.2.1,y.2.2.1.2.2.2.1,y.2.2.1.2.2.2.2.1,PUnit.unit),PUnit.unit) y_1→bif decide (y_1.2.2.2.1<x7) then(0:Int)≤y_1.2.1∧x9<List.length y_1.2.2.2.2.1.2.2.1∧bif !(List.getD y_1.2.2.2.2.1.2.2.1 x9 zPat).Not then(0:Int)≤y_1.2.2.2.1∧x6<x8∧x6<x8∧bif !hasS y_1.1 x5 then(0:Int)≤y_1.2.2.2.1∧x6<x8∧x6<x8∧List.length y_1.1+List.length x4≤(4294967296:Nat)∧Zi159_7 r (y.1,y.2.1,addVars [] x0,(0:Int),(y.2.2.1.1,y.2.2.1.2.1,y.2.2.1.2.2.1,y.2.2.1.2.2.2.1,y.2.2.1.2.2.2.2.1,PUnit.unit),PUnit.unit) (y_1.1++x4,y_1.2.1,y_1.2.2.1,IntKind.wrap IntKind.i64 (y_1.2.2.2.1+(1:Int)),(y_1.2.2.2.2.1.1,y_1.2.2.2.2.1.2.1,y_1.2.2.2.2.1.2.2.1,y_1.2.2.2.2.1.2.2.2.1,y_1.2.2.2.2.1.2.2.2.2.1,PUnit.unit),PUnit.unit)∧Zm159_7 r (y_1.1++x4,y_1.2.1,y_1.2.2.1,IntKind.wrap IntKind.i64 (y_1.2.2.2.1+(1:Int)),(y_1.2.2.2.2.1.1,y_1.2.2.2.2.1.2.1,y_1.2.2.2.2.1.2.2.1,y_1.2.2.2.2.1.2.2.2.1,y_1.2.2.2.2.1.2.2.2.2.1,PUnit.unit),PUnit.unit)<Zm159_7 r y_1 else Zi159_7 r (y.1,y.2.1,addVars [] x0,(0:Int),(y.2.2.1.1,y.2.2.1.2.1,y.2.2.1.2.2.1,y.2.2.1.2.2.2.1,y.2.2.1.2.2.2.2.1,PUnit.unit),PUnit.unit) (y_1.1,y_1.2.1,y_1.2.2.1,IntKind.wrap IntKind.i64 (y_1.2.2.2.1+(1:Int)),(y_1.2.2.2.2.1.1,y_1.2.2.2.2.1.2.1,y_1.2.2.2.2.1.2.2.1,y_1.2.2.2.2.1.2.2.2.1,y_1.2.2.2.2.1.2.2.2.2.1,PUnit.unit),PUnit.unit)∧Zm159_7 r (y_1.1,y_1.2.1,y_1.2.2.1,IntKind.wrap IntKind.i64 (y_1.2.2.2.1+(1:Int)),(y_1.2.2.2.2.1.1,y_1.2.2.2.2.1.2.1,y_1.2.2.2.2.1.2.2.1,y_1.2.2.2.2.1.2.2.2.1,y_1.2.2.2.2.1.2.2.2.2.1,PUnit.unit),PUnit.unit)<Zm159_7 r y_1 else Zi159_3 r (y_1.1,IntKind.wrap IntKind.i64 (y_1.2.1+(1:Int)),(y_1.2.2.2.2.1.1,y_1.2.2.2.2.1.2.1,y_1.2.2.2.2.1.2.2.1,y_1.2.2.2.2.1.2.2.2.1,y_1.2.2.2.2.1.2.2.2.2.1,PUnit.unit),PUnit.unit)∧Zm159_3 r (y_1.1,IntKind.wrap IntKind.i64 (y_1.2.1+(1:Int)),(y_1.2.2.2.2.1.1,y_1.2.2.2.2.1.2.1,y_1.2.2.2.2.1.2.2.1,y_1.2.2.2.2.1.2.2.2.1,y_1.2.2.2.2.1.2.2.2.2.1,PUnit.unit),PUnit.unit)<Zm159_3 r y else Zi159_3 r (y_1.1,IntKind.wrap IntKind.i64 (y_1.2.1+(1:Int)),(y_1.2.2.2.2.1.1,y_1.2.2.2.2.1.2.1,y_1.2.2.2.2.1.2.2.1,y_1.2.2.2.2.1.2.2.2.1,y_1.2.2.2.2.1.2.2.2.2.1,PUnit.unit),PUnit.unit)∧Zm159_3 r (y_1.1,IntKind.wrap IntKind.i64 (y_1.2.1+(1:Int)),(y_1.2.2.2.2.1.1,y_1.2.2.2.2.1.2.1,y_1.2.2.2.2.1.2.2.1,y_1.2.2.2.2.1.2.2.2.1,y_1.2.2.2.2.1.2.2.2.2.1,PUnit.unit),PUnit.unit)<Zm159_3 r y
   else Lf [DV.one (Cell.sl Cd.str y.1)] [DV.one (Cell.sl Cd.str (posVarsS r.Pats))]):=by kernel_rfl
theorem Zo159:Holds EE (159,Zk159):=by
 refine holds_of EE_ok Go.Proofs.Tryz.func159 Zk159 (by kernel_rfl) Zu159 (us_ok _) Za159 (fun(r:DRule) hp hb=> ?_)
 have hz0:=bd_eRule (x:=r) (hb _ m0)
 have hl_r_Name:=hz0.1
 have hl_r_Pats:=hz0.2.1
 have hl_r_Conds:=hz0.2.2.1
 have hl_r_Acts:=hz0.2.2.2
 have hp0:patArgs r.Pats≤4294967296:=hp _ m0
 clear hp hb
 rw[Zv159 r]
 dsimp only
 refine⟨⟨rfl,by omega,by omega,rfl⟩,?_⟩
 rintro⟨l,i,⟨b1,b2,b3,b4,b5,⟨⟩⟩,⟨⟩⟩ ⟨hbx,h1,h2,rfl⟩
 cases hbx
 simp only
 refine if_cond (fun hc=> ?_) (fun hc=> ?_)
 ·have hc:=of_decide_eq_true hc
  have hs:posVarsS (r.Pats.take (i+1).toNat)=posVarS (posVarsS (r.Pats.take i.toNat)) (List.getD r.Pats i.toNat zPat):=foldl_step posVarS [] r.Pats zPat h1 hc
  have ha:=patArgs_at r.Pats h1 hc
  have hl:=posVarsS_len0 (r.Pats.take i.toNat) []
  simp only[List.length_nil,Nat.zero_add] at hl
  have hv:=addVars_len (List.getD r.Pats i.toNat zPat).Args []
  simp only[List.length_nil,Nat.zero_add] at hv
  refine⟨by omega,by omega,by omega,⟨rfl,rfl,rfl,by omega,by omega,rfl,.inl rfl⟩,?_⟩
  rintro⟨l',i',v,k,⟨b1,b2,b3,b4,b5,⟨⟩⟩,⟨⟩⟩ ⟨hbx,rfl,rfl,g1,g2,rfl,g3⟩
  cases hbx
  simp only
  have hfl:=foldOnce_len ((addVars [] (List.getD r.Pats i'.toNat zPat).Args).take k.toNat) (posVarsS (r.Pats.take i'.toNat))
  have hfl2:((addVars [] (List.getD r.Pats i'.toNat zPat).Args).take k.toNat).length≤k.toNat:=by rw[List.length_take];omega
  have hl':(posVarsS (r.Pats.take i'.toNat)).length≤patArgs (r.Pats.take i'.toNat):=hl
  have hin:(addVars [] (List.getD r.Pats i'.toNat zPat).Args).length≤(List.getD r.Pats i'.toNat zPat).Args.length:=hv
  refine if_cond (fun hk=> ?_) (fun hk=> ?_)
  ·have hk:=of_decide_eq_true hk
   have hf:=foldl_step addOnce (posVarsS (r.Pats.take i'.toNat)) (addVars [] (List.getD r.Pats i'.toNat zPat).Args) noBytes g1 hk
   rw[wrap_i64 (n:=k+1) (by omega) (by omega),wrap_i64 (n:=i'+1) (by omega) (by omega)]
   refine⟨by omega,by omega,if_cond (fun hn=> ?_) (fun hn=> ?_)⟩
   ·have hn:(List.getD r.Pats i'.toNat zPat).Not=false:=by simpa using hn
    have hkl:k.toNat<(addVars [] (List.getD r.Pats i'.toNat zPat).Args).length:=by omega
    refine⟨g1,hkl,hkl,if_cond (fun g=>⟨g1,hkl,hkl,by simp only[List.length_cons,List.length_nil];omega,⟨rfl,rfl,rfl,by omega,by omega,?_,.inr hn⟩,by simp only[Zm159_7];omega⟩) (fun g=>⟨⟨rfl,rfl,rfl,by omega,by omega,?_,.inr hn⟩,by simp only[Zm159_7];omega⟩)⟩
    ·rw[hf,addOnce,if_neg (by simpa using g)]
    ·rw[hf,addOnce,if_pos (by simpa using g)]
   ·have hn:(List.getD r.Pats i'.toNat zPat).Not=true:=by simpa using hn
    have hk0:k=0:=g3.resolve_right (by rw[hn];decide)
    subst hk0
    refine⟨⟨rfl,by omega,by omega,?_⟩,by simp only[Zm159_3];omega⟩
    rw[hs,posVarS,if_pos hn]
    rfl
  ·have hk:=of_decide_eq_false hk
   rw[wrap_i64 (n:=i'+1) (by omega) (by omega)]
   refine⟨⟨rfl,by omega,by omega,?_⟩,by simp only[Zm159_3];omega⟩
   rw[hs,posVarS]
   by_cases hn:(List.getD r.Pats i'.toNat zPat).Not=true
   ·have hk0:k=0:=g3.resolve_right (by rw[hn];decide)
    subst hk0
    rw[if_pos hn];rfl
   ·rw[if_neg hn,take_all (addVars [] (List.getD r.Pats i'.toNat zPat).Args) (by omega)]
 ·have hc:=of_decide_eq_false hc
  rw[take_all r.Pats (by omega)]
  exact Lf_rfl _
def Zh159:HH:=⟨_,Zo159⟩
def Zk241:Con UU where
 α:=(List ByteArray)×ByteArray
 md:=[.mv,.ro]
 of:=oC (oL .str) (o1 oS)
 ds:=fun x=>[dL .str x.1,dS x.2]
 pre:=fun(l,name)=>[l.length≤4294967295]
 res:=fun(l,name)=>⟨[.one (.sl .str (addOnce l name))],true,[]⟩
 law:=lC (lL .str) (l1 lS)
def Za241:Zk241.α→Nat→Option (Ann UU):=fun(l,name)=>annL []
def Zu241:=us [Zh179]
theorem Zv241(l:(List ByteArray))(name:ByteArray):goal EE Zu241 Go.Proofs.Tryz.f241 Zk241 Za241 (l,name)=(bif hasS l name then Lf [DV.one (Cell.sl Cd.str l)] [DV.one (Cell.sl Cd.str (addOnce l name))] else l.length+List.length [name]≤(4294967296:Nat)∧Lf [DV.one (Cell.sl Cd.str (l++[name]))] [DV.one (Cell.sl Cd.str (addOnce l name))]):=by kernel_rfl
theorem Zo241:Holds EE (241,Zk241):=by
 refine holds_of EE_ok Go.Proofs.Tryz.func241 Zk241 (by kernel_rfl) Zu241 (us_ok _) Za241 (fun x hp hb=> ?_)
 obtain⟨l,name⟩:=x
 have hl_l:l.length≤9223372036854775807:=bdL (hb _ m0)
 have hl_name:=bdS (s:=name) (hb _ m1)
 have hp0:l.length≤4294967295:=hp _ m0
 clear hp hb
 rw[Zv241 l name]
 refine if_cond (fun h=> ?_) (fun h=>⟨by simp;omega,?_⟩)
 ·rw[addOnce,if_pos h];exact Lf_rfl _
 ·rw[addOnce,if_neg (by rw[h];decide)];exact Lf_rfl _
def Zh241:HH:=⟨_,Zo241⟩
def Zk219:Con UU where
 α:=(List ByteArray)×(List DArg)
 md:=[.mv,.ro]
 of:=oC (oL .str) (o1 (oL .eArg))
 ds:=fun x=>[dL .str x.1,dL .eArg x.2]
 pre:=fun(l,args)=>[l.length+args.length≤4294967295]
 res:=fun(l,args)=>⟨[.one (.sl .str (addVars l args))],true,[]⟩
 law:=lC (lL .str) (l1 (lL .eArg))
def Zi219_2(l:(List ByteArray))(args:(List DArg)):List ByteArray×Int×Unit→Prop:=fun(v,i,_)=>0≤i∧i≤args.length∧v=addVars l (args.take i.toNat)
def Zm219_2(l:(List ByteArray))(args:(List DArg)):List ByteArray×Int×Unit→Nat:=fun(v,i,_)=>args.length-i.toNat
def Za219:Zk219.α→Nat→Option (Ann UU):=fun(l,args)=>annL [(2,annOf [.slot 0 (0,1024) (.own .str true),.slot 9 (9,1024) (.lit (.int .i64))] (fun _=>Zi219_2 l args) (Zm219_2 l args))]
def Zu219:=us [Zh241]
theorem Zv219(l:(List ByteArray))(args:(List DArg)):goal EE Zu219 Go.Proofs.Tryz.f219 Zk219 Za219 (l,args)=(Zi219_2 l args (l,(0:Int),())∧
 ∀(y:List ByteArray×Int×PUnit),
  let x1:Nat:=Int.toNat y.2.1;
  let x0:DArg:=List.getD args x1 zArg;
  Zi219_2 l args y→bif decide (y.2.1<(↑(List.length args):Int)) then(0:Int)≤y.2.1∧x1<List.length args∧bif x0.K==(1:Int) then List.length y.1≤(4294967295:Nat)∧Zi219_2 l args (addOnce y.1 x0.S,IntKind.wrap IntKind.i64 (y.2.1+(1:Int)),PUnit.unit)∧Zm219_2 l args (addOnce y.1 x0.S,IntKind.wrap IntKind.i64 (y.2.1+(1:Int)),PUnit.unit)<Zm219_2 l args y else Zi219_2 l args (y.1,IntKind.wrap IntKind.i64 (y.2.1+(1:Int)),PUnit.unit)∧Zm219_2 l args (y.1,IntKind.wrap IntKind.i64 (y.2.1+(1:Int)),PUnit.unit)<Zm219_2 l args y else Lf [DV.one (Cell.sl Cd.str y.1)] [DV.one (Cell.sl Cd.str (addVars l args))]):=by kernel_rfl
theorem Zo219:Holds EE (219,Zk219):=by
 refine holds_of EE_ok Go.Proofs.Tryz.func219 Zk219 (by kernel_rfl) Zu219 (us_ok _) Za219 (fun x hp hb=> ?_)
 obtain⟨l,args⟩:=x
 have hl_l:l.length≤9223372036854775807:=bdL (hb _ m0)
 have hl_args:args.length≤9223372036854775807:=bdL (hb _ m1)
 have hp0:l.length+args.length≤4294967295:=hp _ m0
 clear hp hb
 rw[Zv219 l args]
 dsimp only
 refine⟨⟨by omega,by omega,rfl⟩,?_⟩
 rintro⟨v,i,⟨⟩⟩ ⟨h1,h2,rfl⟩
 simp only
 refine if_cond (fun hc=> ?_) (fun hc=> ?_)
 ·have hc:=of_decide_eq_true hc
  have hs:=addVars_step l args h1 hc
  have hl:=addVars_len (args.take i.toNat) l
  have hl2:(args.take i.toNat).length≤i.toNat:=by rw[List.length_take];omega
  rw[wrap_i64 (by omega) (by omega)]
  refine⟨by omega,by omega,if_cond (fun h=>⟨by omega,⟨by omega,by omega,?_⟩,by simp only[Zm219_2];omega⟩) (fun h=>⟨⟨by omega,by omega,?_⟩,by simp only[Zm219_2];omega⟩)⟩
  ·rw[hs,addVar,if_pos (eq_of_beq h)]
  ·rw[hs,addVar,if_neg (fun e=>by rw[e] at h;simp at h)]
 ·have hc:=of_decide_eq_false hc
  rw[take_all args (by omega)]
  exact Lf_rfl _
def Zh219:HH:=⟨_,Zo219⟩
def Zk177:Con UU where
 α:=DRule
 md:=[.ro]
 of:=o1 (oA .eRule)
 ds:=fun x=>[dA .eRule x]
 pre:=fun r=>[patArgs r.Pats≤4294967295]
 res:=fun r=>⟨[.one (.sl .str (posVars r.Pats))],true,[]⟩
 law:=l1 (lA .eRule)
def Zi177_3(r:DRule):List ByteArray×Int×Unit→Prop:=fun(v,i,_)=>0≤i∧i≤r.Pats.length∧v=posVars (r.Pats.take i.toNat)
def Zm177_3(r:DRule):List ByteArray×Int×Unit→Nat:=fun(v,i,_)=>r.Pats.length-i.toNat
def Za177:Zk177.α→Nat→Option (Ann UU):=fun r=>annL [(3,annOf [.slot 3 (3,1024) (.own .str true),.slot 9 (9,1024) (.lit (.int .i64))] (fun _=>Zi177_3 r) (Zm177_3 r))]
def Zu177:=us [Zh219]
theorem Zv177(r:DRule):goal EE Zu177 Go.Proofs.Tryz.f177 Zk177 Za177 r=(Zi177_3 r ([],(0:Int),())∧
 ∀(y:List ByteArray×Int×PUnit),
  let x2:Nat:=Int.toNat y.2.1;
  let x1:DPat:=List.getD r.Pats x2 zPat;
  let x0:List DArg:=x1.Args;
  Zi177_3 r y→bif decide (y.2.1<(↑(List.length r.Pats):Int)) then(0:Int)≤y.2.1∧x2<List.length r.Pats∧bif !x1.Not then List.length y.1+List.length x0≤(4294967295:Nat)∧Zi177_3 r (addVars y.1 x0,IntKind.wrap IntKind.i64 (y.2.1+(1:Int)),PUnit.unit)∧Zm177_3 r (addVars y.1 x0,IntKind.wrap IntKind.i64 (y.2.1+(1:Int)),PUnit.unit)<Zm177_3 r y else Zi177_3 r (y.1,IntKind.wrap IntKind.i64 (y.2.1+(1:Int)),PUnit.unit)∧Zm177_3 r (y.1,IntKind.wrap IntKind.i64 (y.2.1+(1:Int)),PUnit.unit)<Zm177_3 r y else Lf [DV.one (Cell.sl Cd.str y.1)] [DV.one (Cell.sl Cd.str (posVars r.Pats))]):=by kernel_rfl
theorem Zo177:Holds EE (177,Zk177):=by
 refine holds_of EE_ok Go.Proofs.Tryz.func177 Zk177 (by kernel_rfl) Zu177 (us_ok _) Za177 (fun(r:DRule) hp hb=> ?_)
 have hz0:=bd_eRule (x:=r) (hb _ m0)
 have hl_r_Name:=hz0.1
 have hl_r_Pats:=hz0.2.1
 have hl_r_Conds:=hz0.2.2.1
 have hl_r_Acts:=hz0.2.2.2
 have hp0:patArgs r.Pats≤4294967295:=hp _ m0
 clear hp hb
 rw[Zv177 r]
 dsimp only
 refine⟨⟨by omega,by omega,rfl⟩,?_⟩
 rintro⟨v,i,⟨⟩⟩ ⟨h1,h2,rfl⟩
 simp only
 refine if_cond (fun hc=> ?_) (fun hc=> ?_)
 ·have hc:=of_decide_eq_true hc
  have hs:posVars (r.Pats.take (i+1).toNat)=posVar (posVars (r.Pats.take i.toNat)) (List.getD r.Pats i.toNat zPat):=foldl_step posVar [] r.Pats zPat h1 hc
  have ha:=patArgs_at r.Pats h1 hc
  have hl:=posVars_len0 (r.Pats.take i.toNat) []
  simp only[List.length_nil,Nat.zero_add] at hl
  have hl':(posVars (r.Pats.take i.toNat)).length≤patArgs (r.Pats.take i.toNat):=hl
  rw[wrap_i64 (by omega) (by omega)]
  refine⟨by omega,by omega,if_cond (fun h=>⟨by omega,⟨by omega,by omega,?_⟩,by simp only[Zm177_3];omega⟩) (fun h=>⟨⟨by omega,by omega,?_⟩,by simp only[Zm177_3];omega⟩)⟩
  ·rw[hs,posVar,if_neg (by simpa using h)]
  ·rw[hs,posVar,if_pos (by simpa using h)]
 ·have hc:=of_decide_eq_false hc
  rw[take_all r.Pats (by omega)]
  exact Lf_rfl _
def Zh177:HH:=⟨_,Zo177⟩
def notAt(ps:List DPat)(i:Nat):Bool:=(List.getD ps i zPat).Not
def patAt(ps:List DPat)(i:Nat):Bool:=patOk (List.getD ps i zPat)&& !(decide (2<i)&& !notAt ps i)&& !(decide (i=0)&&notAt ps i)&& !(decide (0<i)&&notAt ps (i-1)&& !notAt ps i)
def patsOk(ps:List DPat):Bool:=decide (1≤ps.length∧ps.length≤6)&&allI ps.length (patAt ps)
def patAtI(ps:List DPat)(i:Nat):Bool:=patOk (List.getD ps i zPat)&&(notAt ps i==decide (posN ps≤i))
def patsOkI(ps:List DPat):Bool:=decide (1≤ps.length∧ps.length≤6)&&decide (1≤posN ps∧posN ps≤3)&&allI ps.length (patAtI ps)
theorem allI_all{n:Nat}{p:Nat→Bool}:allI n p=true↔∀j,j<n→p j=true:=by simp[allI]
theorem posN_cons(p:DPat)(ps:List DPat):posN (p::ps)=(if p.Not then 0 else 1)+posN ps:=by
 simp only[posN,List.filter_cons]
 cases p.Not<;>simp<;>omega
theorem not_mono:∀{ps:List DPat},(∀i,i+1<ps.length→notAt ps i=true→notAt ps (i+1)=true)→∀i,i<ps.length→notAt ps i=decide (posN ps≤i)
 |[],_,i,hi=>by simp at hi
 |p::ps,h,i,hi=>by
  have ih:=not_mono (ps:=ps) (fun j hj hn=>h (j+1) (by simpa using hj) hn)
  rw[posN_cons]
  cases hp:p.Not with
  |false=>
   cases i with
   |zero=>show p.Not=_;rw[hp];simp
   |succ i=>
    show notAt ps i=_
    rw[ih i (by simpa using hi)]
    simp only[Bool.false_eq_true,if_false,decide_eq_decide];omega
  |true=>
   have hall:∀j,j<(p::ps).length→notAt (p::ps) j=true:=by
    intro j
    induction j with
    |zero=>intro _;exact hp
    |succ j ihj=>intro hj;exact h j hj (ihj (by omega))
   have h0:posN ps=0:=by
    cases ps with
    |nil=>rfl
    |cons q qs=>
     have h1:=ih 0 (by simp)
     have h2:notAt (q::qs) 0=true:=hall 1 (by simp)
     rw[h2] at h1
     have:=of_decide_eq_true h1.symm
     omega
   rw[hall i hi,h0];simp
theorem patsOkI_eq(ps:List DPat):patsOkI ps=patsOk ps:=by
 rw[Bool.eq_iff_iff]
 simp only[patsOkI,patsOk,Bool.and_eq_true,decide_eq_true_eq,allI_all]
 constructor
 ·rintro⟨⟨h1,h2⟩,h3⟩
  have hN:∀j,j<ps.length→notAt ps j=decide (posN ps≤j):=fun j hj=>by
   have:=h3 j hj
   simp only[patAtI,Bool.and_eq_true,beq_iff_eq] at this
   exact this.2
  refine⟨h1,fun j hj=> ?_⟩
  have hk:=h3 j hj
  simp only[patAtI,Bool.and_eq_true] at hk
  simp only[patAt,hk.1,hN j hj,Bool.true_and,Bool.and_eq_true,Bool.not_eq_true',Bool.and_eq_false_iff,decide_eq_false_iff_not,Bool.not_eq_false',decide_eq_true_eq]
  refine⟨⟨by omega,by omega⟩,?_⟩
  by_cases h0:0<j
  ·rw[hN (j-1) (by omega)];simp only[decide_eq_false_iff_not];omega
  ·exact .inl (.inl h0)
 ·rintro⟨h1,h2⟩
  have hA:∀j,j<ps.length→patOk (List.getD ps j zPat)=true∧(2<j→notAt ps j=true)∧(j=0→notAt ps j=false)∧(0<j→notAt ps (j-1)=true→notAt ps j=true):=fun j hj=>by
   have:=h2 j hj
   simp only[patAt,Bool.and_eq_true,Bool.not_eq_true',Bool.and_eq_false_iff,decide_eq_false_iff_not,Bool.not_eq_false'] at this
   obtain⟨⟨⟨a1,a2⟩,a3⟩,a4⟩:=this
   refine⟨a1,fun h=>a2.resolve_left (fun e=>e h),fun h=>a3.resolve_left (fun e=>e h),fun h hn=>a4.resolve_left (fun e=> ?_)⟩
   rcases e with e|e
   ·exact e h
   ·rw[hn] at e;cases e
  have hN:=not_mono (ps:=ps) (fun i hi hn=>(hA (i+1) hi).2.2.2 (by omega) (by simpa using hn))
  have hz:=(hA 0 (by omega)).2.2.1 rfl
  rw[hN 0 (by omega)] at hz
  have hz:=of_decide_eq_false hz
  have hle:posN ps≤ps.length:=List.length_filter_le _ _
  refine⟨⟨h1,by omega,?_⟩,fun j hj=> ?_⟩
  ·by_cases h4:3<ps.length
   ·have:=(hA 3 h4).2.1 (by omega)
    rw[hN 3 h4] at this
    exact of_decide_eq_true this
   ·omega
  ·simp only[patAtI,(hA j hj).1,hN j hj];simp
def knownIn(vars:List ByteArray)(a:DArg):Bool:= !decide (a.K=1)||hasS vars a.S
def kondIn(vars:List ByteArray)(c:DCond):Bool:=kondOk c&&knownIn vars c.L&&knownIn vars c.R
def kondsIn(l:List DCond)(vars:List ByteArray):Bool:=decide (l.length≤6)&&l.all (kondIn vars)
def exprIn(vars:List ByteArray)(e:DExpr):Bool:=knownIn vars e.L&&knownIn vars e.R
def dropIn(pos:Int)(a:DAct):Bool:= !(decide (a.Kind=2)&&decide (pos≤a.N))
def actIn(vars:List ByteArray)(pos:Int)(a:DAct):Bool:=actOk a&&dropIn pos a&&a.Args.all (exprIn vars)
def actsIn(l:List DAct)(vars:List ByteArray)(pos:Int):Bool:=decide (1≤l.length∧l.length≤6)&&l.all (actIn vars pos)
def ruleOk(r:DRule):Bool:=nameOk r.Name&&decide (-100≤r.Sal∧r.Sal≤100)&&patsOk r.Pats&&kondsIn r.Conds (posVarsS r.Pats)&&actsIn r.Acts (posVarsS r.Pats) (posN r.Pats)
theorem patArgs_size(ps:List DPat):patArgs ps≤sizePatS ps:=by
 simp only[patArgs,sizePatS]
 have:∀l:List DPat,(l.map fun p=>p.Args.length).sum≤(l.map sizePat).sum:=by
  intro l
  induction l with
  |nil=>exact Nat.le_refl _
  |cons p l ih=>simp only[List.map_cons,List.sum_cons,sizePat,sizeArgS] at ih⊢;omega
 have:=this ps;omega
theorem has_same(ps:List DPat)(t:ByteArray):hasS (posVars ps) t=hasS (posVarsS ps) t:=by
 rw[Bool.eq_iff_iff,hasS_iff,hasS_iff,posVars_mem,posVarsS_mem]
def usedC(l:List ByteArray)(c:DCond):List ByteArray:=addVars l [c.L,c.R]
def usedE(l:List ByteArray)(e:DExpr):List ByteArray:=addVars l [e.L,e.R]
def usedA(l:List ByteArray)(a:DAct):List ByteArray:=a.Args.foldl usedE l
def usedV(r:DRule):List ByteArray:=r.Acts.foldl usedA (r.Conds.foldl usedC [])
def usedN(l:List DAct):Nat:=(l.map fun a=>2*a.Args.length).sum
theorem usedC_len(l:List ByteArray)(c:DCond):(usedC l c).length≤l.length+2:=addVars_len _ _
theorem usedE_len:∀(es:List DExpr)(l:List ByteArray),(es.foldl usedE l).length≤l.length+2*es.length
 |[],l=>Nat.le_refl _
 |e::es,l=>by
  have h1:=usedE_len es (usedE l e)
  have h2:(usedE l e).length≤l.length+2:=addVars_len _ _
  show(es.foldl usedE (usedE l e)).length≤_
  simp only[List.length_cons];omega
theorem usedCs_len:∀(cs:List DCond)(l:List ByteArray),(cs.foldl usedC l).length≤l.length+2*cs.length
 |[],l=>Nat.le_refl _
 |c::cs,l=>by
  have h1:=usedCs_len cs (usedC l c)
  have h2:=usedC_len l c
  show(cs.foldl usedC (usedC l c)).length≤_
  simp only[List.length_cons];omega
theorem usedAs_len:∀(xs:List DAct)(l:List ByteArray),(xs.foldl usedA l).length≤l.length+usedN xs
 |[],l=>Nat.le_refl _
 |a::xs,l=>by
  have h1:=usedAs_len xs (usedA l a)
  have h2:(usedA l a).length≤l.length+2*a.Args.length:=usedE_len _ _
  show(xs.foldl usedA (usedA l a)).length≤_
  simp only[usedN,List.map_cons,List.sum_cons] at h1⊢;omega
theorem usedN_at(l:List DAct){i:Int}(h0:0≤i)(h:i<l.length):usedN (l.take i.toNat)+2*(List.getD l i.toNat zAct).Args.length≤usedN l:=by
 have h1:usedN (l.take (i+1).toNat)≤usedN l:=by
  have h:=congrArg (fun q=>(q.map fun a:DAct=>2*a.Args.length).sum) (List.take_append_drop (i+1).toNat l)
  simp only[List.map_append,List.sum_append] at h
  simp only[usedN];omega
 rw[←take_step l zAct h0 h] at h1
 simp only[usedN,List.map_append,List.sum_append,List.map_cons,List.map_nil,List.sum_cons,List.sum_nil] at h1⊢
 omega
def names(t:ByteArray)(a:DArg):Prop:=a.K=1∧t=a.S
theorem used2_mem{l:List ByteArray}{a b:DArg}{t:ByteArray}:t∈addVars l [a,b]↔t∈l∨names t a∨names t b:=by
 rw[addVars_mem];simp[names]
theorem usedE_mem{t:ByteArray}:∀{es:List DExpr}{l:List ByteArray},t∈es.foldl usedE l↔t∈l∨∃e∈es,names t e.L∨names t e.R
 |[],l=>by simp
 |e::es,l=>by
  show t∈es.foldl usedE (usedE l e)↔_
  rw[usedE_mem,usedE,used2_mem]
  simp only[List.mem_cons,exists_eq_or_imp,or_assoc]
theorem usedCs_mem{t:ByteArray}:∀{cs:List DCond}{l:List ByteArray},t∈cs.foldl usedC l↔t∈l∨∃c∈cs,names t c.L∨names t c.R
 |[],l=>by simp
 |c::cs,l=>by
  show t∈cs.foldl usedC (usedC l c)↔_
  rw[usedCs_mem,usedC,used2_mem]
  simp only[List.mem_cons,exists_eq_or_imp,or_assoc]
theorem usedAs_mem{t:ByteArray}:∀{xs:List DAct}{l:List ByteArray},t∈xs.foldl usedA l↔t∈l∨∃a∈xs,∃e∈a.Args,names t e.L∨names t e.R
 |[],l=>by simp
 |a::xs,l=>by
  show t∈xs.foldl usedA (usedA l a)↔_
  rw[usedAs_mem,usedA,usedE_mem]
  simp only[List.mem_cons,exists_eq_or_imp,or_assoc]
theorem knownIn_iff{vars:List ByteArray}{a:DArg}:knownIn vars a=true↔∀t,names t a→hasS vars t=true:=by
 simp only[knownIn,Bool.or_eq_true,Bool.not_eq_true',decide_eq_false_iff_not,names]
 constructor
 ·rintro(h|h) t ⟨h1,rfl⟩
  ·exact absurd h1 h
  ·exact h
 ·intro h
  by_cases h1:a.K=1
  ·exact .inr (h a.S ⟨h1,rfl⟩)
  ·exact .inl h1
theorem used_all(r:DRule)(vars:List ByteArray):(usedV r).all (hasS vars)=(r.Conds.all (fun c=>knownIn vars c.L&&knownIn vars c.R)&&r.Acts.all fun a=>a.Args.all (exprIn vars)):=by
 rw[Bool.eq_iff_iff]
 simp only[Bool.and_eq_true,List.all_eq_true,exprIn,knownIn_iff,usedV]
 constructor
 ·intro h
  refine⟨fun c hc=>⟨fun t ht=>h t ?_,fun t ht=>h t ?_⟩,fun a ha e he=>⟨fun t ht=>h t ?_,fun t ht=>h t ?_⟩⟩
  ·rw[usedAs_mem,usedCs_mem];exact .inl (.inr ⟨c,hc,.inl ht⟩)
  ·rw[usedAs_mem,usedCs_mem];exact .inl (.inr ⟨c,hc,.inr ht⟩)
  ·rw[usedAs_mem];exact .inr ⟨a,ha,e,he,.inl ht⟩
  ·rw[usedAs_mem];exact .inr ⟨a,ha,e,he,.inr ht⟩
 ·rintro⟨h1,h2⟩ t ht
  rw[usedAs_mem,usedCs_mem] at ht
  rcases ht with(ht|⟨c,hc,ht|ht⟩)|⟨a,ha,e,he,ht|ht⟩
  ·cases ht
  ·exact(h1 c hc).1 t ht
  ·exact(h1 c hc).2 t ht
  ·exact(h2 a ha e he).1 t ht
  ·exact(h2 a ha e he).2 t ht
def ruleOkI(r:DRule):Bool:=nameOk r.Name&&decide (-100≤r.Sal∧r.Sal≤100)&&patsOk r.Pats&&decide (r.Conds.length≤6)&&decide (1≤r.Acts.length∧r.Acts.length≤6)&&r.Conds.all kondOk&&r.Acts.all (fun a=>actOk a&&dropIn (posN r.Pats) a)&&(usedV r).all (hasS (posVars r.Pats))
theorem all_and{α:Type}(p q:α→Bool)(l:List α):l.all (fun x=>p x&&q x)=(l.all p&&l.all q):=by
 induction l with
 |nil=>rfl
 |cons x l ih=>simp only[List.all_cons,ih];cases p x<;>cases q x<;>simp
theorem ruleOkI_eq(r:DRule):ruleOkI r=ruleOk r:=by
 have e1:(usedV r).all (hasS (posVars r.Pats))=(usedV r).all (hasS (posVarsS r.Pats)):=by
  have:hasS (posVars r.Pats)=hasS (posVarsS r.Pats):=funext fun t=>has_same _ _
  rw[this]
 have e2:r.Conds.all (kondIn (posVarsS r.Pats))=(r.Conds.all kondOk&&r.Conds.all (fun c=>knownIn (posVarsS r.Pats) c.L&&knownIn (posVarsS r.Pats) c.R)):=by
  rw[←all_and]
  congr 1;funext c;simp only[kondIn,Bool.and_assoc]
 have e3:r.Acts.all (actIn (posVarsS r.Pats) (posN r.Pats))=(r.Acts.all (fun a=>actOk a&&dropIn (posN r.Pats) a)&&r.Acts.all (fun a=>a.Args.all (exprIn (posVarsS r.Pats)))):=by
  rw[←all_and];rfl
 simp only[ruleOkI,ruleOk,kondsIn,actsIn,e1,e2,e3,used_all]
 rw[Bool.eq_iff_iff]
 simp only[Bool.and_eq_true]
 constructor
 ·rintro⟨⟨⟨⟨⟨⟨⟨a1,a2⟩,a3⟩,a4⟩,a5⟩,a6⟩,a7⟩,a8,a9⟩
  exact⟨⟨⟨⟨a1,a2⟩,a3⟩,a4,a6,a8⟩,a5,a7,a9⟩
 ·rintro⟨⟨⟨⟨a1,a2⟩,a3⟩,a4,a6,a8⟩,a5,a7,a9⟩
  exact⟨⟨⟨⟨⟨⟨⟨a1,a2⟩,a3⟩,a4⟩,a5⟩,a6⟩,a7⟩,a8,a9⟩
theorem if_dec{p:Prop}[Decidable p]{P Q:Prop}(h1:p→P)(h2:¬p→Q):bif decide p then P else Q:=if_cond (fun h=>h1 (of_decide_eq_true h)) (fun h=>h2 (of_decide_eq_false h))
theorem if_not{b:Bool}{P Q:Prop}(h1:b=false→P)(h2:b=true→Q):bif !b then P else Q:=if_cond (fun h=>h1 (by simpa using h)) (fun h=>h2 (by simpa using h))
theorem if_num{a b:Int}{P Q:Prop}(h1:a=b→P)(h2:¬a=b→Q):bif a==b then P else Q:=if_cond (fun h=>h1 (eq_of_beq h)) (fun h=>h2 (fun e=>by rw[e] at h;simp at h))
theorem sumC{α:Type}(f:α→Nat)(B:Nat):∀(l:List α),(∀x∈l,f x≤B)→(l.map f).sum≤l.length*B
 |[],_=>by simp
 |x::l,h=>by
  have h1:=sumC f B l (fun y hy=>h y (List.mem_cons_of_mem _ hy))
  have h2:=h x List.mem_cons_self
  simp only[List.map_cons,List.sum_cons,List.length_cons,Nat.add_mul];omega
theorem patsOk_args{ps:List DPat}(h:patsOk ps=true):patArgs ps≤30:=by
 simp only[patsOk,Bool.and_eq_true,decide_eq_true_eq,allI_all] at h
 have:=sumC (fun p:DPat=>p.Args.length) 5 ps (fun p hp=>by
  obtain⟨i,hi,rfl⟩:=List.getElem_of_mem hp
  have hk:=h.2 i hi
  simp only[patAt,Bool.and_eq_true,List.getD_eq_getElem?_getD,List.getElem?_eq_getElem hi,Option.getD_some] at hk
  have hk:=hk.1.1.1
  simp only[patOk,Bool.and_eq_true,decide_eq_true_eq] at hk
  exact hk.1.2)
 simp only[patArgs];omega
theorem actOk_args{a:DAct}(h:actOk a=true):a.Args.length≤5:=by
 simp only[actOk,bareA,exprsOk] at h
 grind
theorem actsOk_used{l:List DAct}(hl:l.length≤6)(h:∀a∈l,actOk a=true):usedN l≤60:=by
 have:=sumC (fun a:DAct=>2*a.Args.length) 10 l (fun a ha=>by have:=actOk_args (h a ha);omega)
 simp only[usedN];omega
def Zk209:Con UU where
 α:=DArg×(List ByteArray)
 md:=[.ro,.ro]
 of:=oC (oA .eArg) (o1 (oL .str))
 ds:=fun x=>[dA .eArg x.1,dL .str x.2]
 pre:=fun _=>[]
 res:=fun(a,vars)=>⟨[.one (.lit (.bool (knownIn vars a)))],true,[]⟩
 law:=lC (lA .eArg) (l1 (lL .str))
def Za209:Zk209.α→Nat→Option (Ann UU):=fun(a,vars)=>annL []
def Zu209:=us [Zh206]
theorem Zv209(a:DArg)(vars:(List ByteArray)):goal EE Zu209 Go.Proofs.Tryz.f209 Zk209 Za209 (a,vars)=(bif a.K !=(1:Int) then Lb true (knownIn vars a) else Lb (hasS vars a.S) (knownIn vars a)):=by kernel_rfl
theorem Zo209:Holds EE (209,Zk209):=by
 refine holds_of EE_ok Go.Proofs.Tryz.func209 Zk209 (by kernel_rfl) Zu209 (us_ok _) Za209 (fun x hp hb=> ?_)
 obtain⟨a,vars⟩:=x
 have hz0:=bd_eArg (x:=a) (hb _ m0)
 have hl_a_S:=hz0.1
 have hl_a_V_S:=hz0.2
 have hl_vars:vars.length≤9223372036854775807:=bdL (hb _ m1)
 clear hp hb
 rw[Zv209 a vars]
 simp only[knownIn]
 refine if_cond (fun h=>Lf_b ?_) (fun h=>Lf_b ?_)<;>grind
def Zh209:HH:=⟨_,Zo209⟩
def Zk161:Con UU where
 α:=(List DCond)×(List ByteArray)
 md:=[.ro,.ro]
 of:=oC (oL .eCond) (o1 (oL .str))
 ds:=fun x=>[dL .eCond x.1,dL .str x.2]
 pre:=fun _=>[]
 res:=fun(l,vars)=>⟨[.one (.lit (.bool (kondsIn l vars)))],true,[]⟩
 law:=lC (lL .eCond) (l1 (lL .str))
def Zi161_2(l:(List DCond))(vars:(List ByteArray)):Int×Unit→Prop:=fun(i,_)=>0≤i∧i≤l.length∧(l.drop i.toNat).all (kondIn vars)=l.all (kondIn vars)
def Zm161_2(l:(List DCond))(vars:(List ByteArray)):Int×Unit→Nat:=fun(i,_)=>l.length-i.toNat
def Za161:Zk161.α→Nat→Option (Ann UU):=fun(l,vars)=>annL [(2,annOf [.slot 5 (5,1024) (.lit (.int .i64))] (fun _=>Zi161_2 l vars) (Zm161_2 l vars))]
def Zu161:=us [Zh208,Zh209]
theorem Zv161(l:(List DCond))(vars:(List ByteArray)):goal EE Zu161 Go.Proofs.Tryz.f161 Zk161 Za161 (l,vars)=(let x0:Int:=(l.length:Int);
Zi161_2 l vars ((0:Int),PUnit.unit)∧
 ∀(y:Int×PUnit),
  let x1:DCond:=List.getD l (Int.toNat y.1) zCond;
  Zi161_2 l vars y→bif decide (y.1<x0) then(0:Int)≤y.1∧Int.toNat y.1<List.length l∧bif !kondOk x1 then Lf [DV.one (Cell.lit (Value.bool false))] [DV.one (Cell.lit (Value.bool (kondsIn l vars)))] else(0:Int)≤y.1∧Int.toNat y.1<List.length l∧bif !knownIn vars x1.L then Lf [DV.one (Cell.lit (Value.bool false))] [DV.one (Cell.lit (Value.bool (kondsIn l vars)))] else(0:Int)≤y.1∧Int.toNat y.1<List.length l∧bif !knownIn vars x1.R then Lf [DV.one (Cell.lit (Value.bool false))] [DV.one (Cell.lit (Value.bool (kondsIn l vars)))] else Zi161_2 l vars (IntKind.wrap IntKind.i64 (y.1+(1:Int)),PUnit.unit)∧Zm161_2 l vars (IntKind.wrap IntKind.i64 (y.1+(1:Int)),PUnit.unit)<Zm161_2 l vars y else Lf [DV.one (Cell.lit (Value.bool (decide (x0≤(6:Int)))))] [DV.one (Cell.lit (Value.bool (kondsIn l vars)))]):=by kernel_rfl
theorem Zo161:Holds EE (161,Zk161):=by
 refine holds_of EE_ok Go.Proofs.Tryz.func161 Zk161 (by kernel_rfl) Zu161 (us_ok _) Za161 (fun x hp hb=> ?_)
 obtain⟨l,vars⟩:=x
 have hl_l:l.length≤9223372036854775807:=bdL (hb _ m0)
 have hl_vars:vars.length≤9223372036854775807:=bdL (hb _ m1)
 clear hp hb
 rw[Zv161 l vars]
 dsimp only
 refine⟨⟨by omega,by omega,rfl⟩,?_⟩
 rintro⟨i,⟨⟩⟩ ⟨h1,h2,hR⟩
 simp only
 refine if_dec (fun hc=> ?_) (fun hc=> ?_)
 ·rw[all_step _ _ zCond h1 (by omega)] at hR
  rw[wrap_i64 (by omega) (by omega)]
  have hN:kondIn vars (List.getD l i.toNat zCond)=false→kondsIn l vars=false:=fun h=>by simp only[kondsIn,←hR,h];simp
  refine⟨by omega,by omega,if_not (fun h=>Lf_ff (hN ?_)) (fun h=>⟨by omega,by omega,if_not (fun g=>Lf_ff (hN ?_)) (fun g=>⟨by omega,by omega,if_not (fun k=>Lf_ff (hN ?_)) (fun k=>⟨⟨by omega,by omega,?_⟩,by simp only[Zm161_2];omega⟩)⟩)⟩)⟩
  ·simp only[kondIn,h,Bool.false_and]
  ·simp only[kondIn,g,Bool.and_false,Bool.false_and]
  ·simp only[kondIn,k,Bool.and_false]
  ·rw[←hR];simp only[kondIn,h,g,k,Bool.true_and]
 ·rw[drop_end _ (by omega)] at hR
  refine Lf_b ?_
  simp only[kondsIn,←hR];simp;omega
def Zh161:HH:=⟨_,Zo161⟩
def Zk162:Con UU where
 α:=(List DAct)×(List ByteArray)×Int
 md:=[.ro,.ro,.ro]
 of:=oC (oL .eAct) (oC (oL .str) (o1 oI))
 ds:=fun x=>[dL .eAct x.1,dL .str x.2.1,dI x.2.2]
 pre:=fun _=>[]
 res:=fun(l,vars,pos)=>⟨[.one (.lit (.bool (actsIn l vars pos)))],true,[]⟩
 law:=lC (lL .eAct) (lC (lL .str) (l1 lI))
def Zi162_2(l:(List DAct))(vars:(List ByteArray))(pos:Int):Int×Unit→Prop:=fun(i,_)=>0≤i∧i≤l.length∧(l.drop i.toNat).all (actIn vars pos)=l.all (actIn vars pos)
def Zm162_2(l:(List DAct))(vars:(List ByteArray))(pos:Int):Int×Unit→Nat:=fun(i,_)=>l.length-i.toNat
def Zi162_7(l:(List DAct))(vars:(List ByteArray))(pos:Int):Int×Int×Unit→Int×Int×Unit→Prop:=fun(i0,k0,_) (i,k,_)=>i=i0∧0≤k∧k≤(List.getD l i.toNat zAct).Args.length∧((List.getD l i.toNat zAct).Args.drop k.toNat).all (exprIn vars)=(List.getD l i.toNat zAct).Args.all (exprIn vars)
def Zm162_7(l:(List DAct))(vars:(List ByteArray))(pos:Int):Int×Int×Unit→Nat:=fun(i,k,_)=>(List.getD l i.toNat zAct).Args.length-k.toNat
def Za162:Zk162.α→Nat→Option (Ann UU):=fun(l,vars,pos)=>annL [(2,annOf [.slot 7 (7,1024) (.lit (.int .i64))] (fun _=>Zi162_2 l vars pos) (Zm162_2 l vars pos)),(7,annOf [.slot 7 (7,1024) (.lit (.int .i64)),.slot 8 (8,1024) (.lit (.int .i64))] (Zi162_7 l vars pos) (Zm162_7 l vars pos))]
def Zu162:=us [Zh210,Zh209,Zh40]
theorem Zv162(l:(List DAct))(vars:(List ByteArray))(pos:Int):goal EE Zu162 Go.Proofs.Tryz.f162 Zk162 Za162 (l,vars,pos)=(let x0:Int:=(l.length:Int);
Zi162_2 l vars pos ((0:Int),PUnit.unit)∧
 ∀(y:Int×PUnit),
  let x1:DAct:=List.getD l (Int.toNat y.1) zAct;
  Zi162_2 l vars pos y→
   bif decide (y.1<x0) then
    (0:Int)≤y.1∧
     Int.toNat y.1<List.length l∧
      bif !actOk x1 then Lf [DV.one (Cell.lit (Value.bool false))] [DV.one (Cell.lit (Value.bool (actsIn l vars pos)))]
      else
       (0:Int)≤y.1∧
        Int.toNat y.1<List.length l∧
         bif x1.Kind==(2:Int) then
          (0:Int)≤y.1∧
           Int.toNat y.1<List.length l∧
            bif decide (x1.N≥pos) then Lf [DV.one (Cell.lit (Value.bool false))] [DV.one (Cell.lit (Value.bool (actsIn l vars pos)))]
            else
             Zi162_7 l vars pos (y.1,(0:Int),PUnit.unit) (y.1,(0:Int),PUnit.unit)∧
              ∀(y_1:Int×Int×PUnit),
               let x3:Nat:=Int.toNat y_1.2.1;
               let x4:Int:=(↑(List.length (List.getD l (Int.toNat y_1.1) zAct).Args):Int);
               let x2:DExpr:=List.getD (List.getD l (Int.toNat y_1.1) zAct).Args x3 zExpr;
               Zi162_7 l vars pos (y.1,(0:Int),PUnit.unit) y_1→(0:Int)≤y_1.1∧Int.toNat y_1.1<List.length l∧bif decide (y_1.2.1<x4) then(0:Int)≤y_1.1∧Int.toNat y_1.1<List.length l∧(0:Int)≤y_1.2.1∧x3<List.length (List.getD l (Int.toNat y_1.1) zAct).Args∧bif !knownIn vars x2.L then Lf [DV.one (Cell.lit (Value.bool false))] [DV.one (Cell.lit (Value.bool (actsIn l vars pos)))] else(0:Int)≤y_1.1∧Int.toNat y_1.1<List.length l∧(0:Int)≤y_1.2.1∧x3<List.length (List.getD l (Int.toNat y_1.1) zAct).Args∧bif !knownIn vars x2.R then Lf [DV.one (Cell.lit (Value.bool false))] [DV.one (Cell.lit (Value.bool (actsIn l vars pos)))] else Zi162_7 l vars pos (y.1,(0:Int),PUnit.unit) (y_1.1,IntKind.wrap IntKind.i64 (y_1.2.1+(1:Int)),PUnit.unit)∧Zm162_7 l vars pos (y_1.1,IntKind.wrap IntKind.i64 (y_1.2.1+(1:Int)),PUnit.unit)<Zm162_7 l vars pos y_1 else Zi162_2 l vars pos (IntKind.wrap IntKind.i64 (y_1.1+(1:Int)),PUnit.unit)∧Zm162_2 l vars pos (IntKind.wrap IntKind.i64 (y_1.1+(1:Int)),PUnit.unit)<Zm162_2 l vars pos y
         else
          Zi162_7 l vars pos (y.1,(0:Int),PUnit.unit) (y.1,(0:Int),PUnit.unit)∧
           ∀(y_1:Int×Int×PUnit),
            let x3:Nat:=Int.toNat y_1.2.1;
            let x4:Int:=(↑(List.length (List.getD l (Int.toNat y_1.1) zAct).Args):Int);
            let x2:DExpr:=List.getD (List.getD l (Int.toNat y_1.1) zAct).Args x3 zExpr;
            Zi162_7 l vars pos (y.1,(0:Int),PUnit.unit) y_1→(0:Int)≤y_1.1∧Int.toNat y_1.1<List.length l∧bif decide (y_1.2.1<x4) then(0:Int)≤y_1.1∧Int.toNat y_1.1<List.length l∧(0:Int)≤y_1.2.1∧x3<List.length (List.getD l (Int.toNat y_1.1) zAct).Args∧bif !knownIn vars x2.L then Lf [DV.one (Cell.lit (Value.bool false))] [DV.one (Cell.lit (Value.bool (actsIn l vars pos)))] else(0:Int)≤y_1.1∧Int.toNat y_1.1<List.length l∧(0:Int)≤y_1.2.1∧x3<List.length (List.getD l (Int.toNat y_1.1) zAct).Args∧bif !knownIn vars x2.R then Lf [DV.one (Cell.lit (Value.bool false))] [DV.one (Cell.lit (Value.bool (actsIn l vars pos)))] else Zi162_7 l vars pos (y.1,(0:Int),PUnit.unit) (y_1.1,IntKind.wrap IntKind.i64 (y_1.2.1+(1:Int)),PUnit.unit)∧Zm162_7 l vars pos (y_1.1,IntKind.wrap IntKind.i64 (y_1.2.1+(1:Int)),PUnit.unit)<Zm162_7 l vars pos y_1 else Zi162_2 l vars pos (IntKind.wrap IntKind.i64 (y_1.1+(1:Int)),PUnit.unit)∧Zm162_2 l vars pos (IntKind.wrap IntKind.i64 (y_1.1+(1:Int)),PUnit.unit)<Zm162_2 l vars pos y
   else Lf [DV.one (Cell.lit (Value.bool (decide ((1:Int)≤x0∧x0≤(6:Int)))))] [DV.one (Cell.lit (Value.bool (actsIn l vars pos)))]):=by kernel_rfl
theorem Zo162:Holds EE (162,Zk162):=by
 refine holds_of EE_ok Go.Proofs.Tryz.func162 Zk162 (by kernel_rfl) Zu162 (us_ok _) Za162 (fun x hp hb=> ?_)
 obtain⟨l,vars,pos⟩:=x
 have hl_l:l.length≤9223372036854775807:=bdL (hb _ m0)
 have hl_vars:vars.length≤9223372036854775807:=bdL (hb _ m1)
 have hl_pos:=bdI (n:=pos) (hb _ m2)
 clear hp hb
 rw[Zv162 l vars pos]
 dsimp only
 refine⟨⟨by omega,by omega,rfl⟩,?_⟩
 rintro⟨i,⟨⟩⟩ ⟨h1,h2,hR⟩
 simp only
 refine if_dec (fun hc=> ?_) (fun hc=> ?_)
 ·rw[all_step _ _ zAct h1 (by omega)] at hR
  have hN:actIn vars pos (List.getD l i.toNat zAct)=false→actsIn l vars pos=false:=fun h=>by simp only[actsIn,←hR,h];simp
  refine⟨by omega,by omega,if_not (fun ha=>Lf_ff (hN (by simp only[actIn,ha,Bool.false_and]))) (fun ha=>⟨by omega,by omega,if_num (fun hk2=>⟨by omega,by omega,if_dec (fun hp=>Lf_ff (hN ?_)) (fun hp=> ?_)⟩) (fun hk2=> ?_)⟩)⟩
  ·have:dropIn pos (List.getD l i.toNat zAct)=false:=by simp only[dropIn,hk2,decide_eq_true (show pos≤(List.getD l i.toNat zAct).N from hp)];simp
   simp only[actIn,this,Bool.and_false,Bool.false_and]
  ·have hd:dropIn pos (List.getD l i.toNat zAct)=true:=by simp only[dropIn,decide_eq_false (show¬pos≤(List.getD l i.toNat zAct).N from hp)];simp
   have h5:=actOk_args ha
   refine⟨⟨rfl,by omega,by omega,rfl⟩,?_⟩
   rintro⟨i',k,⟨⟩⟩ ⟨rfl,g1,g2,gR⟩
   simp only
   refine⟨by omega,by omega,if_dec (fun hk=> ?_) (fun hk=> ?_)⟩
   ·rw[all_step _ _ zExpr g1 (by omega)] at gR
    rw[wrap_i64 (n:=k+1) (by omega) (by omega)]
    have hM:exprIn vars (List.getD (List.getD l i'.toNat zAct).Args k.toNat zExpr)=false→actsIn l vars pos=false:=fun h=>hN (by simp only[actIn,←gR,h];simp)
    refine⟨by omega,by omega,g1,by omega,if_not (fun e=>Lf_ff (hM ?_)) (fun e=>⟨by omega,by omega,g1,by omega,if_not (fun f=>Lf_ff (hM ?_)) (fun f=>⟨⟨rfl,by omega,by omega,?_⟩,by simp only[Zm162_7];omega⟩)⟩)⟩
    ·simp only[exprIn,e,Bool.false_and]
    ·simp only[exprIn,f,Bool.and_false]
    ·rw[←gR];simp only[exprIn,e,f,Bool.true_and]
   ·rw[drop_end _ (by omega)] at gR
    rw[wrap_i64 (n:=i'+1) (by omega) (by omega)]
    refine⟨⟨by omega,by omega,?_⟩,by simp only[Zm162_2];omega⟩
    rw[←hR];simp only[actIn,←gR,hd,ha,List.all_nil,Bool.true_and]
  ·have hd:dropIn pos (List.getD l i.toNat zAct)=true:=by simp only[dropIn,decide_eq_false hk2];simp
   have h5:=actOk_args ha
   refine⟨⟨rfl,by omega,by omega,rfl⟩,?_⟩
   rintro⟨i',k,⟨⟩⟩ ⟨rfl,g1,g2,gR⟩
   simp only
   refine⟨by omega,by omega,if_dec (fun hk=> ?_) (fun hk=> ?_)⟩
   ·rw[all_step _ _ zExpr g1 (by omega)] at gR
    rw[wrap_i64 (n:=k+1) (by omega) (by omega)]
    have hM:exprIn vars (List.getD (List.getD l i'.toNat zAct).Args k.toNat zExpr)=false→actsIn l vars pos=false:=fun h=>hN (by simp only[actIn,←gR,h];simp)
    refine⟨by omega,by omega,g1,by omega,if_not (fun e=>Lf_ff (hM ?_)) (fun e=>⟨by omega,by omega,g1,by omega,if_not (fun f=>Lf_ff (hM ?_)) (fun f=>⟨⟨rfl,by omega,by omega,?_⟩,by simp only[Zm162_7];omega⟩)⟩)⟩
    ·simp only[exprIn,e,Bool.false_and]
    ·simp only[exprIn,f,Bool.and_false]
    ·rw[←gR];simp only[exprIn,e,f,Bool.true_and]
   ·rw[drop_end _ (by omega)] at gR
    rw[wrap_i64 (n:=i'+1) (by omega) (by omega)]
    refine⟨⟨by omega,by omega,?_⟩,by simp only[Zm162_2];omega⟩
    rw[←hR];simp only[actIn,←gR,hd,ha,List.all_nil,Bool.true_and]
 ·rw[drop_end _ (by omega)] at hR
  refine Lf_b ?_
  simp only[actsIn,←hR,List.all_nil,Bool.and_true];exact decide_eq_decide.2 (by omega)
def Zh162:HH:=⟨_,Zo162⟩
def Zk160:Con UU where
 α:=(List DPat)
 md:=[.ro]
 of:=o1 (oL .ePat)
 ds:=fun x=>[dL .ePat x]
 pre:=fun _=>[]
 res:=fun l=>⟨[.one (.lit (.bool (patsOk l)))],true,[]⟩
 law:=l1 (lL .ePat)
def Zi160_2(l:(List DPat)):Int×Unit→Prop:=fun(i,_)=>0≤i∧i≤l.length∧∀j:Nat,(j:Int)<i→patAt l j=true
def Zm160_2(l:(List DPat)):Int×Unit→Nat:=fun(i,_)=>l.length-i.toNat
def Za160:Zk160.α→Nat→Option (Ann UU):=fun l=>annL [(2,annOf [.slot 3 (3,1024) (.lit (.int .i64))] (fun _=>Zi160_2 l) (Zm160_2 l))]
def Zu160:=us [Zh207,Zh40]
theorem Zv160(l:(List DPat)):goal EE Zu160 Go.Proofs.Tryz.f160 Zk160 Za160 l=(let x0:Int:=(l.length:Int);
Zi160_2 l ((0:Int),PUnit.unit)∧
 ∀(y:Int×PUnit),
  let x1:Nat:=Int.toNat (IntKind.wrap IntKind.i64 (y.1-(1:Int)));
  Zi160_2 l y→bif decide (y.1<x0) then bif decide (y.1>(2:Int)) then(0:Int)≤y.1∧Int.toNat y.1<List.length l∧bif !(List.getD l (Int.toNat y.1) zPat).Not then Lf [DV.one (Cell.lit (Value.bool false))] [DV.one (Cell.lit (Value.bool (patsOk l)))] else(0:Int)≤y.1∧Int.toNat y.1<List.length l∧bif !patOk (List.getD l (Int.toNat y.1) zPat) then Lf [DV.one (Cell.lit (Value.bool false))] [DV.one (Cell.lit (Value.bool (patsOk l)))] else bif y.1==(0:Int) then(0:Int)≤y.1∧Int.toNat y.1<List.length l∧bif (List.getD l (Int.toNat y.1) zPat).Not then Lf [DV.one (Cell.lit (Value.bool false))] [DV.one (Cell.lit (Value.bool (patsOk l)))] else bif decide (y.1>(0:Int)) then(0:Int)≤IntKind.wrap IntKind.i64 (y.1-(1:Int))∧x1<List.length l∧bif (List.getD l x1 zPat).Not then(0:Int)≤y.1∧Int.toNat y.1<List.length l∧bif !(List.getD l (Int.toNat y.1) zPat).Not then Lf [DV.one (Cell.lit (Value.bool false))] [DV.one (Cell.lit (Value.bool (patsOk l)))] else Zi160_2 l (IntKind.wrap IntKind.i64 (y.1+(1:Int)),PUnit.unit)∧Zm160_2 l (IntKind.wrap IntKind.i64 (y.1+(1:Int)),PUnit.unit)<Zm160_2 l y else Zi160_2 l (IntKind.wrap IntKind.i64 (y.1+(1:Int)),PUnit.unit)∧Zm160_2 l (IntKind.wrap IntKind.i64 (y.1+(1:Int)),PUnit.unit)<Zm160_2 l y else Zi160_2 l (IntKind.wrap IntKind.i64 (y.1+(1:Int)),PUnit.unit)∧Zm160_2 l (IntKind.wrap IntKind.i64 (y.1+(1:Int)),PUnit.unit)<Zm160_2 l y else bif decide (y.1>(0:Int)) then(0:Int)≤IntKind.wrap IntKind.i64 (y.1-(1:Int))∧x1<List.length l∧bif (List.getD l x1 zPat).Not then(0:Int)≤y.1∧Int.toNat y.1<List.length l∧bif !(List.getD l (Int.toNat y.1) zPat).Not then Lf [DV.one (Cell.lit (Value.bool false))] [DV.one (Cell.lit (Value.bool (patsOk l)))] else Zi160_2 l (IntKind.wrap IntKind.i64 (y.1+(1:Int)),PUnit.unit)∧Zm160_2 l (IntKind.wrap IntKind.i64 (y.1+(1:Int)),PUnit.unit)<Zm160_2 l y else Zi160_2 l (IntKind.wrap IntKind.i64 (y.1+(1:Int)),PUnit.unit)∧Zm160_2 l (IntKind.wrap IntKind.i64 (y.1+(1:Int)),PUnit.unit)<Zm160_2 l y else Zi160_2 l (IntKind.wrap IntKind.i64 (y.1+(1:Int)),PUnit.unit)∧Zm160_2 l (IntKind.wrap IntKind.i64 (y.1+(1:Int)),PUnit.unit)<Zm160_2 l y else(0:Int)≤y.1∧Int.toNat y.1<List.length l∧bif !patOk (List.getD l (Int.toNat y.1) zPat) then Lf [DV.one (Cell.lit (Value.bool false))] [DV.one (Cell.lit (Value.bool (patsOk l)))] else bif y.1==(0:Int) then(0:Int)≤y.1∧Int.toNat y.1<List.length l∧bif (List.getD l (Int.toNat y.1) zPat).Not then Lf [DV.one (Cell.lit (Value.bool false))] [DV.one (Cell.lit (Value.bool (patsOk l)))] else bif decide (y.1>(0:Int)) then(0:Int)≤IntKind.wrap IntKind.i64 (y.1-(1:Int))∧x1<List.length l∧bif (List.getD l x1 zPat).Not then(0:Int)≤y.1∧Int.toNat y.1<List.length l∧bif !(List.getD l (Int.toNat y.1) zPat).Not then Lf [DV.one (Cell.lit (Value.bool false))] [DV.one (Cell.lit (Value.bool (patsOk l)))] else Zi160_2 l (IntKind.wrap IntKind.i64 (y.1+(1:Int)),PUnit.unit)∧Zm160_2 l (IntKind.wrap IntKind.i64 (y.1+(1:Int)),PUnit.unit)<Zm160_2 l y else Zi160_2 l (IntKind.wrap IntKind.i64 (y.1+(1:Int)),PUnit.unit)∧Zm160_2 l (IntKind.wrap IntKind.i64 (y.1+(1:Int)),PUnit.unit)<Zm160_2 l y else Zi160_2 l (IntKind.wrap IntKind.i64 (y.1+(1:Int)),PUnit.unit)∧Zm160_2 l (IntKind.wrap IntKind.i64 (y.1+(1:Int)),PUnit.unit)<Zm160_2 l y else bif decide (y.1>(0:Int)) then(0:Int)≤IntKind.wrap IntKind.i64 (y.1-(1:Int))∧x1<List.length l∧bif (List.getD l x1 zPat).Not then(0:Int)≤y.1∧Int.toNat y.1<List.length l∧bif !(List.getD l (Int.toNat y.1) zPat).Not then Lf [DV.one (Cell.lit (Value.bool false))] [DV.one (Cell.lit (Value.bool (patsOk l)))] else Zi160_2 l (IntKind.wrap IntKind.i64 (y.1+(1:Int)),PUnit.unit)∧Zm160_2 l (IntKind.wrap IntKind.i64 (y.1+(1:Int)),PUnit.unit)<Zm160_2 l y else Zi160_2 l (IntKind.wrap IntKind.i64 (y.1+(1:Int)),PUnit.unit)∧Zm160_2 l (IntKind.wrap IntKind.i64 (y.1+(1:Int)),PUnit.unit)<Zm160_2 l y else Zi160_2 l (IntKind.wrap IntKind.i64 (y.1+(1:Int)),PUnit.unit)∧Zm160_2 l (IntKind.wrap IntKind.i64 (y.1+(1:Int)),PUnit.unit)<Zm160_2 l y else Lf [DV.one (Cell.lit (Value.bool (decide ((1:Int)≤x0∧x0≤(6:Int)))))] [DV.one (Cell.lit (Value.bool (patsOk l)))]):=by kernel_rfl
theorem Zo160:Holds EE (160,Zk160):=by
 refine holds_of EE_ok Go.Proofs.Tryz.func160 Zk160 (by kernel_rfl) Zu160 (us_ok _) Za160 (fun(l:(List DPat)) hp hb=> ?_)
 have hl_l:l.length≤9223372036854775807:=bdL (hb _ m0)
 clear hp hb
 rw[Zv160 l]
 dsimp only
 refine⟨⟨by omega,by omega,by intro j hj;omega⟩,?_⟩
 rintro⟨i,⟨⟩⟩ ⟨h1,h2,hR⟩
 simp only
 refine if_dec (fun hc=> ?_) (fun hc=> ?_)
 ·have hN:patAt l i.toNat=false→patsOk l=false:=fun h=>by
   have hf:allI l.length (patAt l)=false:=allI_false (j:=i.toNat) (by omega) h
   simp only[patsOk,hf];simp
  have hm:Zm160_2 l (i+1,PUnit.unit)<Zm160_2 l (i,()):=by simp only[Zm160_2];omega
  have e1:(i-1).toNat=i.toNat-1:=by omega
  simp(disch:=omega) only[wrap_i64]
  simp only[e1]
  have c1:decide (2<i.toNat)=decide (i>2):=decide_eq_decide.2 (by omega)
  have c2:decide (i.toNat=0)=decide (i=0):=decide_eq_decide.2 (by omega)
  have c3:decide (0<i.toNat)=decide (i>0):=decide_eq_decide.2 (by omega)
  have hA:patAt l i.toNat=(patOk (List.getD l i.toNat zPat)&& !(decide (i>2)&& !(List.getD l i.toNat zPat).Not)&& !(decide (i=0)&&(List.getD l i.toNat zPat).Not)&& !(decide (i>0)&&(List.getD l (i.toNat-1) zPat).Not&& !(List.getD l i.toNat zPat).Not)):=by
   simp only[patAt,notAt,c1,c2,c3]
  have hgo:patAt l i.toNat=true→Zi160_2 l (i+1,PUnit.unit)∧Zm160_2 l (i+1,PUnit.unit)<Zm160_2 l (i,()):=fun h=>⟨⟨by omega,by omega,upto_step h1 hR h⟩,hm⟩
  rw[hA] at hN hgo
  generalize (List.getD l (i.toNat-1) zPat).Not=q at*
  generalize (List.getD l i.toNat zPat).Not=r at*
  generalize patOk (List.getD l i.toNat zPat)=s at*
  clear hA c1 c2 c3 hR
  have hlt:i.toNat<l.length:=by omega
  have hlt':i.toNat-1<l.length:=by omega
  have hi1:i>0→0≤i-1:=fun h=>by omega
  repeat' (first|refine Lf_ff (hN ?_)|refine hgo ?_|refine if_dec (fun h=> ?_) (fun h=> ?_)|refine if_num (fun h=> ?_) (fun h=> ?_)|refine if_cond (fun h=> ?_) (fun h=> ?_)|refine And.intro h1 ?_|refine And.intro hlt ?_|refine And.intro hlt' ?_|refine And.intro (hi1 (by assumption)) ?_)
  all_goals (cases q<;>cases r<;>cases s<;>simp at* <;>omega)
 ·have hA:allI l.length (patAt l)=true:=allI_true fun j hj=>hR j (by omega)
  refine Lf_b ?_
  simp only[patsOk,hA,Bool.and_true];exact decide_eq_decide.2 (by omega)
def Zh160:HH:=⟨_,Zo160⟩
def Zk102:Con UU where
 α:=DRule
 md:=[.ro]
 of:=o1 (oA .eRule)
 ds:=fun x=>[dA .eRule x]
 pre:=fun r=>[patArgs r.Pats≤4294967295]
 res:=fun r=>⟨[.one (.lit (.bool (ruleOk r)))],true,[]⟩
 law:=l1 (lA .eRule)
def Za102:Zk102.α→Nat→Option (Ann UU):=fun r=>annL []
def Zu102:=us [Zh159,Zh71,Zh40,Zh160,Zh161,Zh162,Zh83]
theorem Zv102(r:DRule):goal EE Zu102 Go.Proofs.Tryz.f102 Zk102 Za102 r=(patArgs r.Pats≤(4294967296:Nat)∧bif nameOk r.Name then bif decide ((-100:Int)≤r.Sal∧r.Sal≤(100:Int)) then bif patsOk r.Pats then bif kondsIn r.Conds (posVarsS r.Pats) then Lb (actsIn r.Acts (posVarsS r.Pats) (↑(posN r.Pats):Int)) (ruleOk r) else Lb false (ruleOk r) else Lb false (ruleOk r) else Lb false (ruleOk r) else Lb false (ruleOk r)):=by kernel_rfl
theorem Zo102:Holds EE (102,Zk102):=by
 refine holds_of EE_ok Go.Proofs.Tryz.func102 Zk102 (by kernel_rfl) Zu102 (us_ok _) Za102 (fun(r:DRule) hp hb=> ?_)
 have hz0:=bd_eRule (x:=r) (hb _ m0)
 have hl_r_Name:=hz0.1
 have hl_r_Pats:=hz0.2.1
 have hl_r_Conds:=hz0.2.2.1
 have hl_r_Acts:=hz0.2.2.2
 have hp0:patArgs r.Pats≤4294967295:=hp _ m0
 clear hp hb
 rw[Zv102 r]
 refine⟨by omega,?_⟩
 simp only[ruleOk]
 repeat' (refine if_cond (fun h=> ?_) (fun h=> ?_))
 all_goals (refine Lf_b ?_;grind)
def Zh102:HH:=⟨_,Zo102⟩
def Zk174:Con UU where
 α:=DRule
 md:=[.ro]
 of:=o1 (oA .eRule)
 ds:=fun x=>[dA .eRule x]
 pre:=fun _=>[]
 res:=fun r=>⟨[.one (.lit (.bool (patsOkI r.Pats)))],true,[]⟩
 law:=l1 (lA .eRule)
def Zi174_4(r:DRule):Int×(ByteArray×Int×List DPat×List DCond×List DAct×Unit)×Unit→Prop:=fun(i,b,_)=>b=(r.Name,r.Sal,r.Pats,r.Conds,r.Acts,())∧0≤i∧i≤r.Pats.length∧(1≤r.Pats.length∧r.Pats.length≤6)∧(1≤posN r.Pats∧posN r.Pats≤3)∧∀j:Nat,(j:Int)<i→patAtI r.Pats j=true
def Zm174_4(r:DRule):Int×(ByteArray×Int×List DPat×List DCond×List DAct×Unit)×Unit→Nat:=fun(i,b,_)=>r.Pats.length-i.toNat
def Za174:Zk174.α→Nat→Option (Ann UU):=fun r=>annL [(4,annOf [.slot 19 (19,1024) (.lit (.int .i64)),.box 1 (1,1024) [.lit .str,.lit (.int .i64),.shr .ePat,.shr .eCond,.shr .eAct]] (fun _=>Zi174_4 r) (Zm174_4 r))]
def Zu174:=us [Zh56,Zh125,Zh216]
theorem Zv174(r:DRule):goal EE Zu174 Go.Proofs.Tryz.f174 Zk174 Za174 r=(let x0:Int:=(r.Pats.length:Int);
bif !decide ((1:Int)≤x0∧x0≤(6:Int)) then Lf [DV.one (Cell.lit (Value.bool false))] [DV.one (Cell.lit (Value.bool (patsOkI r.Pats)))]
else
 bif !decide ((1:Int)≤(↑(posN r.Pats):Int)∧(↑(posN r.Pats):Int)≤(3:Int)) then Lf [DV.one (Cell.lit (Value.bool false))] [DV.one (Cell.lit (Value.bool (patsOkI r.Pats)))]
 else
  Zi174_4 r ((0:Int),(r.Name,r.Sal,r.Pats,r.Conds,r.Acts,PUnit.unit),PUnit.unit)∧
   ∀(y:Int×(ByteArray×Int×List DPat×List DCond×List DAct×PUnit)×PUnit),
    let x1:Int:=(↑(posN y.2.1.2.2.1):Int);
    Zi174_4 r y→bif decide (y.1<x0) then(0:Int)≤y.1∧Int.toNat y.1<List.length r.Pats∧bif !patOk (List.getD r.Pats (Int.toNat y.1) zPat) then Lf [DV.one (Cell.lit (Value.bool false))] [DV.one (Cell.lit (Value.bool (patsOkI r.Pats)))] else bif !(List.getD r.Pats (Int.toNat y.1) zPat).Not==decide (y.1≥x1) then Lf [DV.one (Cell.lit (Value.bool false))] [DV.one (Cell.lit (Value.bool (patsOkI r.Pats)))] else Zi174_4 r (IntKind.wrap IntKind.i64 (y.1+(1:Int)),(y.2.1.1,y.2.1.2.1,y.2.1.2.2.1,y.2.1.2.2.2.1,y.2.1.2.2.2.2.1,PUnit.unit),PUnit.unit)∧Zm174_4 r (IntKind.wrap IntKind.i64 (y.1+(1:Int)),(y.2.1.1,y.2.1.2.1,y.2.1.2.2.1,y.2.1.2.2.2.1,y.2.1.2.2.2.2.1,PUnit.unit),PUnit.unit)<Zm174_4 r y else Lf [DV.one (Cell.lit (Value.bool true))] [DV.one (Cell.lit (Value.bool (patsOkI r.Pats)))]):=by kernel_rfl
theorem Zo174:Holds EE (174,Zk174):=by
 refine holds_of EE_ok Go.Proofs.Tryz.func174 Zk174 (by kernel_rfl) Zu174 (us_ok _) Za174 (fun(r:DRule) hp hb=> ?_)
 have hz0:=bd_eRule (x:=r) (hb _ m0)
 have hl_r_Name:=hz0.1
 have hl_r_Pats:=hz0.2.1
 have hl_r_Conds:=hz0.2.2.1
 have hl_r_Acts:=hz0.2.2.2
 clear hp hb
 rw[Zv174 r]
 dsimp only
 refine if_not (fun h=>Lf_ff ?_) (fun h=>if_not (fun h'=>Lf_ff ?_) (fun h'=> ?_))
 ·have h:=of_decide_eq_false h
  simp only[patsOkI];rw[decide_eq_false (by omega)];rfl
 ·have h':=of_decide_eq_false h'
  simp only[patsOkI];rw[decide_eq_false (p:=1≤posN r.Pats∧posN r.Pats≤3) (by omega)];simp
 have h:=of_decide_eq_true h
 have h':=of_decide_eq_true h'
 refine⟨⟨rfl,by omega,by omega,by omega,by omega,by intro j hj;omega⟩,?_⟩
 rintro⟨i,⟨b1,b2,b3,b4,b5,⟨⟩⟩,⟨⟩⟩ ⟨hbx,h1,h2,h3,h4,hR⟩
 cases hbx
 simp only
 refine if_dec (fun hc=> ?_) (fun hc=> ?_)
 ·have hN:patAtI r.Pats i.toNat=false→patsOkI r.Pats=false:=fun h=>by
   have hf:allI r.Pats.length (patAtI r.Pats)=false:=allI_false (j:=i.toNat) (by omega) h
   simp only[patsOkI,hf];simp
  rw[wrap_i64 (by omega) (by omega)]
  have c1:decide (posN r.Pats≤i.toNat)=decide (i≥(posN r.Pats:Int)):=decide_eq_decide.2 (by omega)
  refine⟨by omega,by omega,if_not (fun g=>Lf_ff (hN (by simp only[patAtI,g,Bool.false_and]))) (fun g=>if_not (fun k=>Lf_ff (hN ?_)) (fun k=>⟨⟨rfl,by omega,by omega,h3,h4,upto_step h1 hR ?_⟩,by simp only[Zm174_4];omega⟩))⟩
  ·simp only[patAtI,notAt,c1,k];simp
  ·simp only[patAtI,notAt,c1,k,g];rfl
 ·have hA:allI r.Pats.length (patAtI r.Pats)=true:=allI_true fun j hj=>hR j (by omega)
  refine Lf_tt ?_
  simp only[patsOkI,hA,decide_eq_true h3,decide_eq_true h4];rfl
def Zh174:HH:=⟨_,Zo174⟩
def Zk178:Con UU where
 α:=DRule
 md:=[.ro]
 of:=o1 (oA .eRule)
 ds:=fun x=>[dA .eRule x]
 pre:=fun r=>[2*r.Conds.length+usedN r.Acts≤4294967295]
 res:=fun r=>⟨[.one (.sl .str (usedV r))],true,[]⟩
 law:=l1 (lA .eRule)
def Zi178_3(r:DRule):List ByteArray×Int×(ByteArray×Int×List DPat×List DCond×List DAct×Unit)×Unit→Prop:=fun(v,i,b,_)=>b=(r.Name,r.Sal,r.Pats,r.Conds,r.Acts,())∧0≤i∧i≤r.Conds.length∧v=(r.Conds.take i.toNat).foldl usedC []
def Zm178_3(r:DRule):List ByteArray×Int×(ByteArray×Int×List DPat×List DCond×List DAct×Unit)×Unit→Nat:=fun(v,i,b,_)=>r.Conds.length-i.toNat
def Zi178_8(r:DRule):List ByteArray×Int×Unit→Prop:=fun(v,i,_)=>0≤i∧i≤r.Acts.length∧v=(r.Acts.take i.toNat).foldl usedA (r.Conds.foldl usedC [])
def Zm178_8(r:DRule):List ByteArray×Int×Unit→Nat:=fun(v,i,_)=>r.Acts.length-i.toNat
def Zi178_11(r:DRule):List ByteArray×Int×Int×Unit→List ByteArray×Int×Int×Unit→Prop:=fun(v0,i0,k0,_) (v,i,k,_)=>i=i0∧0≤k∧k≤(List.getD r.Acts i.toNat zAct).Args.length∧v=((List.getD r.Acts i.toNat zAct).Args.take k.toNat).foldl usedE v0
def Zm178_11(r:DRule):List ByteArray×Int×Int×Unit→Nat:=fun(v,i,k,_)=>(List.getD r.Acts i.toNat zAct).Args.length-k.toNat
def Za178:Zk178.α→Nat→Option (Ann UU):=fun r=>annL [(3,annOf [.slot 3 (3,1024) (.own .str true),.slot 13 (13,1024) (.lit (.int .i64)),.box 1 (1,1024) [.lit .str,.lit (.int .i64),.shr .ePat,.shr .eCond,.shr .eAct]] (fun _=>Zi178_3 r) (Zm178_3 r)),(8,annOf [.slot 3 (3,1024) (.own .str true),.slot 28 (28,1024) (.lit (.int .i64))] (fun _=>Zi178_8 r) (Zm178_8 r)),(11,annOf [.slot 3 (3,1024) (.own .str true),.slot 28 (28,1024) (.lit (.int .i64)),.slot 35 (35,1024) (.lit (.int .i64))] (Zi178_11 r) (Zm178_11 r))]
def Zu178:=us [Zh219]
theorem Zv178(r:DRule):goal EE Zu178 Go.Proofs.Tryz.f178 Zk178 Za178 r=(Zi178_3 r ([],(0:Int),(r.Name,r.Sal,r.Pats,r.Conds,r.Acts,()),())∧
 ∀(y:List ByteArray×Int×(ByteArray×Int×List DPat×List DCond×List DAct×PUnit)×PUnit),
  let x2:Nat:=List.length y.2.2.1.2.2.2.2.1;
  let x4:Nat:=Int.toNat y.2.1;
  let x1:Int:=(↑x2:Int);
  let x3:DCond:=List.getD r.Conds x4 zCond;
  let x0:List DArg:=[x3.L,x3.R];
  Zi178_3 r y→
   bif decide (y.2.1<(↑(List.length r.Conds):Int)) then(0:Int)≤y.2.1∧x4<List.length r.Conds∧List.length y.1+List.length x0≤(4294967295:Nat)∧Zi178_3 r (addVars y.1 x0,IntKind.wrap IntKind.i64 (y.2.1+(1:Int)),(y.2.2.1.1,y.2.2.1.2.1,y.2.2.1.2.2.1,y.2.2.1.2.2.2.1,y.2.2.1.2.2.2.2.1,PUnit.unit),PUnit.unit)∧Zm178_3 r (addVars y.1 x0,IntKind.wrap IntKind.i64 (y.2.1+(1:Int)),(y.2.2.1.1,y.2.2.1.2.1,y.2.2.1.2.2.1,y.2.2.1.2.2.2.1,y.2.2.1.2.2.2.2.1,PUnit.unit),PUnit.unit)<Zm178_3 r y
   else
    Zi178_8 r (y.1,(0:Int),PUnit.unit)∧
     ∀(y_1:List ByteArray×Int×PUnit),
      let x8:Nat:=Int.toNat y_1.2.1;
      let x7:List DExpr:=(List.getD y.2.2.1.2.2.2.2.1 x8 zAct).Args;
      let x6:Nat:=List.length x7;
      let x5:Int:=(↑x6:Int);
      Zi178_8 r y_1→
       bif decide (y_1.2.1<x1) then
        (0:Int)≤y_1.2.1∧
         x8<x2∧
          Zi178_11 r (y_1.1,y_1.2.1,(0:Int),PUnit.unit) (y_1.1,y_1.2.1,(0:Int),PUnit.unit)∧
           ∀(y:List ByteArray×Int×Int×PUnit),
            let x11:Nat:=Int.toNat y.2.2.1;
            let x10:DExpr:=List.getD x7 x11 zExpr;
            let x9:List DArg:=[x10.L,x10.R];
            Zi178_11 r (y_1.1,y_1.2.1,(0:Int),PUnit.unit) y→bif decide (y.2.2.1<x5) then(0:Int)≤y.2.2.1∧x11<x6∧List.length y.1+List.length x9≤(4294967295:Nat)∧Zi178_11 r (y_1.1,y_1.2.1,(0:Int),PUnit.unit) (addVars y.1 x9,y.2.1,IntKind.wrap IntKind.i64 (y.2.2.1+(1:Int)),PUnit.unit)∧Zm178_11 r (addVars y.1 x9,y.2.1,IntKind.wrap IntKind.i64 (y.2.2.1+(1:Int)),PUnit.unit)<Zm178_11 r y else Zi178_8 r (y.1,IntKind.wrap IntKind.i64 (y.2.1+(1:Int)),PUnit.unit)∧Zm178_8 r (y.1,IntKind.wrap IntKind.i64 (y.2.1+(1:Int)),PUnit.unit)<Zm178_8 r y_1
       else Lf [DV.one (Cell.sl Cd.str y_1.1)] [DV.one (Cell.sl Cd.str (usedV r))]):=by kernel_rfl
theorem Zo178:Holds EE (178,Zk178):=by
 refine holds_of EE_ok Go.Proofs.Tryz.func178 Zk178 (by kernel_rfl) Zu178 (us_ok _) Za178 (fun(r:DRule) hp hb=> ?_)
 have hz0:=bd_eRule (x:=r) (hb _ m0)
 have hl_r_Name:=hz0.1
 have hl_r_Pats:=hz0.2.1
 have hl_r_Conds:=hz0.2.2.1
 have hl_r_Acts:=hz0.2.2.2
 have hp0:2*r.Conds.length+usedN r.Acts≤4294967295:=hp _ m0
 clear hp hb
 rw[Zv178 r]
 dsimp only
 refine⟨⟨rfl,by omega,by omega,rfl⟩,?_⟩
 rintro⟨v,i,⟨b1,b2,b3,b4,b5,⟨⟩⟩,⟨⟩⟩ ⟨hbx,h1,h2,rfl⟩
 cases hbx
 simp only
 refine if_dec (fun hc=> ?_) (fun hc=> ?_)
 ·have hs:=foldl_step usedC [] r.Conds zCond h1 hc
  have hl:=usedCs_len (r.Conds.take i.toNat) []
  have hl2:(r.Conds.take i.toNat).length≤i.toNat:=by rw[List.length_take];omega
  simp only[List.length_nil] at hl
  rw[wrap_i64 (by omega) (by omega)]
  refine⟨by omega,by omega,by simp only[List.length_cons,List.length_nil];omega,⟨rfl,by omega,by omega,hs.symm⟩,by simp only[Zm178_3];omega⟩
 rw[take_all r.Conds (by omega)]
 have hl0:=usedCs_len r.Conds []
 simp only[List.length_nil] at hl0
 refine⟨⟨by omega,by omega,rfl⟩,?_⟩
 rintro⟨v,i,⟨⟩⟩ ⟨g1,g2,rfl⟩
 simp only
 refine if_dec (fun hc=> ?_) (fun hc=> ?_)
 ·have hs:=foldl_step usedA (r.Conds.foldl usedC []) r.Acts zAct g1 hc
  have ha:=usedN_at r.Acts g1 hc
  have hl:=usedAs_len (r.Acts.take i.toNat) (r.Conds.foldl usedC [])
  refine⟨by omega,by omega,⟨rfl,by omega,by omega,rfl⟩,?_⟩
  rintro⟨v,i',k,⟨⟩⟩ ⟨rfl,k1,k2,rfl⟩
  simp only
  have hle:=usedE_len ((List.getD r.Acts i'.toNat zAct).Args.take k.toNat) ((r.Acts.take i'.toNat).foldl usedA (r.Conds.foldl usedC []))
  have hl2:((List.getD r.Acts i'.toNat zAct).Args.take k.toNat).length≤k.toNat:=by rw[List.length_take];omega
  refine if_dec (fun hk=> ?_) (fun hk=> ?_)
  ·have hf:=foldl_step usedE ((r.Acts.take i'.toNat).foldl usedA (r.Conds.foldl usedC [])) (List.getD r.Acts i'.toNat zAct).Args zExpr k1 hk
   rw[wrap_i64 (by omega) (by omega)]
   exact⟨by omega,by omega,by simp only[List.length_cons,List.length_nil];omega,⟨rfl,by omega,by omega,hf.symm⟩,by simp only[Zm178_11];omega⟩
  ·rw[wrap_i64 (by omega) (by omega)]
   refine⟨⟨by omega,by omega,?_⟩,by simp only[Zm178_8];omega⟩
   rw[hs,take_all (List.getD r.Acts i'.toNat zAct).Args (by omega)];rfl
 ·rw[take_all r.Acts (by omega)]
  exact Lf_rfl _
def Zh178:HH:=⟨_,Zo178⟩
def Zk115:Con UU where
 α:=DRule
 md:=[.ro]
 of:=o1 (oA .eRule)
 ds:=fun x=>[dA .eRule x]
 pre:=fun _=>[]
 res:=fun r=>⟨[.one (.lit (.bool (ruleOk r)))],true,[]⟩
 law:=l1 (lA .eRule)
def Zi115_6(r:DRule):Int×(ByteArray×Int×List DPat×List DCond×List DAct×Unit)×Unit→Prop:=fun(i,b,_)=>b=(r.Name,r.Sal,r.Pats,r.Conds,r.Acts,())∧0≤i∧i≤r.Conds.length∧(r.Conds.drop i.toNat).all kondOk=r.Conds.all kondOk
def Zm115_6(r:DRule):Int×(ByteArray×Int×List DPat×List DCond×List DAct×Unit)×Unit→Nat:=fun(i,b,_)=>r.Conds.length-i.toNat
def Zi115_12(r:DRule):Int×(ByteArray×Int×List DPat×List DCond×List DAct×Unit)×Unit→Prop:=fun(i,b,_)=>b=(r.Name,r.Sal,r.Pats,r.Conds,r.Acts,())∧0≤i∧i≤r.Acts.length∧(r.Acts.drop i.toNat).all (fun a=>actOk a&&dropIn (posN r.Pats) a)=r.Acts.all (fun a=>actOk a&&dropIn (posN r.Pats) a)
def Zm115_12(r:DRule):Int×(ByteArray×Int×List DPat×List DCond×List DAct×Unit)×Unit→Nat:=fun(i,b,_)=>r.Acts.length-i.toNat
def Zi115_19(r:DRule):Int×List ByteArray×List ByteArray×Unit→Prop:=fun(i,v,u,_)=>v=posVars r.Pats∧u=usedV r∧0≤i∧i≤(usedV r).length∧((usedV r).drop i.toNat).all (hasS (posVars r.Pats))=(usedV r).all (hasS (posVars r.Pats))
def Zm115_19(r:DRule):Int×List ByteArray×List ByteArray×Unit→Nat:=fun(i,v,u,_)=>(usedV r).length-i.toNat
def Za115:Zk115.α→Nat→Option (Ann UU):=fun r=>annL [(6,annOf [.slot 39 (39,1024) (.lit (.int .i64)),.box 1 (1,1024) [.lit .str,.lit (.int .i64),.shr .ePat,.shr .eCond,.shr .eAct]] (fun _=>Zi115_6 r) (Zm115_6 r)),(12,annOf [.slot 50 (50,1024) (.lit (.int .i64)),.box 1 (1,1024) [.lit .str,.lit (.int .i64),.shr .ePat,.shr .eCond,.shr .eAct]] (fun _=>Zi115_12 r) (Zm115_12 r)),(19,annOf [.slot 75 (75,1024) (.lit (.int .i64)),.slot 7 (7,1024) (.own .str true),.slot 73 (73,1024) (.own .str true)] (fun _=>Zi115_19 r) (Zm115_19 r))]
def Zu115:=us [Zh76,Zh56,Zh174,Zh175,Zh176,Zh125,Zh177,Zh178,Zh179]
theorem Zv115(r:DRule):goal EE Zu115 Go.Proofs.Tryz.f115 Zk115 Za115 r=(let x0:Int:=(r.Conds.length:Int);
bif !nameOk r.Name then Lf [DV.one (Cell.lit (Value.bool false))] [DV.one (Cell.lit (Value.bool (ruleOk r)))]
else
 bif !decide ((-100:Int)≤r.Sal∧r.Sal≤(100:Int)) then Lf [DV.one (Cell.lit (Value.bool false))] [DV.one (Cell.lit (Value.bool (ruleOk r)))]
 else
  bif !patsOkI r.Pats then Lf [DV.one (Cell.lit (Value.bool false))] [DV.one (Cell.lit (Value.bool (ruleOk r)))]
  else
   bif decide (x0>(6:Int)) then Lf [DV.one (Cell.lit (Value.bool false))] [DV.one (Cell.lit (Value.bool (ruleOk r)))]
   else
    bif !decide ((1:Int)≤(↑(List.length r.Acts):Int)∧(↑(List.length r.Acts):Int)≤(6:Int)) then Lf [DV.one (Cell.lit (Value.bool false))] [DV.one (Cell.lit (Value.bool (ruleOk r)))]
    else
     Zi115_6 r ((0:Int),(r.Name,r.Sal,r.Pats,r.Conds,r.Acts,PUnit.unit),PUnit.unit)∧
      ∀(y:Int×(ByteArray×Int×List DPat×List DCond×List DAct×PUnit)×PUnit),
       let x2:Nat:=List.length y.2.1.2.2.2.2.1;
       let x1:Int:=(↑x2:Int);
       Zi115_6 r y→
        bif decide (y.1<x0) then(0:Int)≤y.1∧Int.toNat y.1<List.length r.Conds∧bif !kondOk (List.getD r.Conds (Int.toNat y.1) zCond) then Lf [DV.one (Cell.lit (Value.bool false))] [DV.one (Cell.lit (Value.bool (ruleOk r)))] else Zi115_6 r (IntKind.wrap IntKind.i64 (y.1+(1:Int)),(y.2.1.1,y.2.1.2.1,y.2.1.2.2.1,y.2.1.2.2.2.1,y.2.1.2.2.2.2.1,PUnit.unit),PUnit.unit)∧Zm115_6 r (IntKind.wrap IntKind.i64 (y.1+(1:Int)),(y.2.1.1,y.2.1.2.1,y.2.1.2.2.1,y.2.1.2.2.2.1,y.2.1.2.2.2.2.1,PUnit.unit),PUnit.unit)<Zm115_6 r y
        else
         Zi115_12 r ((0:Int),(y.2.1.1,y.2.1.2.1,y.2.1.2.2.1,y.2.1.2.2.2.1,y.2.1.2.2.2.2.1,PUnit.unit),PUnit.unit)∧
          ∀(y_1:Int×(ByteArray×Int×List DPat×List DCond×List DAct×PUnit)×PUnit),
           let x4:List ByteArray:=usedV {Name:=y_1.2.1.1,Sal:=y_1.2.1.2.1,Pats:=y_1.2.1.2.2.1,Conds:=y_1.2.1.2.2.2.1,Acts:=y_1.2.1.2.2.2.2.1:DRule};
           let x5:DAct:=List.getD y.2.1.2.2.2.2.1 (Int.toNat y_1.1) zAct;
           let x6:Int:=(↑(posN y_1.2.1.2.2.1):Int);
           let x3:Int:=(↑(List.length x4):Int);
           Zi115_12 r y_1→bif decide (y_1.1<x1) then(0:Int)≤y_1.1∧Int.toNat y_1.1<x2∧bif !actOk x5 then Lf [DV.one (Cell.lit (Value.bool false))] [DV.one (Cell.lit (Value.bool (ruleOk r)))] else bif x5.Kind==(2:Int) then bif decide (x5.N≥x6) then Lf [DV.one (Cell.lit (Value.bool false))] [DV.one (Cell.lit (Value.bool (ruleOk r)))] else Zi115_12 r (IntKind.wrap IntKind.i64 (y_1.1+(1:Int)),(y_1.2.1.1,y_1.2.1.2.1,y_1.2.1.2.2.1,y_1.2.1.2.2.2.1,y_1.2.1.2.2.2.2.1,PUnit.unit),PUnit.unit)∧Zm115_12 r (IntKind.wrap IntKind.i64 (y_1.1+(1:Int)),(y_1.2.1.1,y_1.2.1.2.1,y_1.2.1.2.2.1,y_1.2.1.2.2.2.1,y_1.2.1.2.2.2.2.1,PUnit.unit),PUnit.unit)<Zm115_12 r y_1 else Zi115_12 r (IntKind.wrap IntKind.i64 (y_1.1+(1:Int)),(y_1.2.1.1,y_1.2.1.2.1,y_1.2.1.2.2.1,y_1.2.1.2.2.2.1,y_1.2.1.2.2.2.2.1,PUnit.unit),PUnit.unit)∧Zm115_12 r (IntKind.wrap IntKind.i64 (y_1.1+(1:Int)),(y_1.2.1.1,y_1.2.1.2.1,y_1.2.1.2.2.1,y_1.2.1.2.2.2.1,y_1.2.1.2.2.2.2.1,PUnit.unit),PUnit.unit)<Zm115_12 r y_1 else patArgs y_1.2.1.2.2.1≤(4294967295:Nat)∧(2:Nat)*List.length y_1.2.1.2.2.2.1+usedN y_1.2.1.2.2.2.2.1≤(4294967295:Nat)∧Zi115_19 r ((0:Int),posVars y_1.2.1.2.2.1,x4,PUnit.unit)∧∀(y:Int×List ByteArray×List ByteArray×PUnit),Zi115_19 r y→bif decide (y.1<x3) then(0:Int)≤y.1∧Int.toNat y.1<List.length y.2.2.1∧Int.toNat y.1<List.length y.2.2.1∧bif !hasS y.2.1 (List.getD y.2.2.1 (Int.toNat y.1) noBytes) then Lf [DV.one (Cell.lit (Value.bool false))] [DV.one (Cell.lit (Value.bool (ruleOk r)))] else Zi115_19 r (IntKind.wrap IntKind.i64 (y.1+(1:Int)),y.2.1,y.2.2.1,PUnit.unit)∧Zm115_19 r (IntKind.wrap IntKind.i64 (y.1+(1:Int)),y.2.1,y.2.2.1,PUnit.unit)<Zm115_19 r y else Lf [DV.one (Cell.lit (Value.bool true))] [DV.one (Cell.lit (Value.bool (ruleOk r)))]):=by kernel_rfl
theorem Zo115:Holds EE (115,Zk115):=by
 refine holds_of EE_ok Go.Proofs.Tryz.func115 Zk115 (by kernel_rfl) Zu115 (us_ok _) Za115 (fun(r:DRule) hp hb=> ?_)
 have hz0:=bd_eRule (x:=r) (hb _ m0)
 have hl_r_Name:=hz0.1
 have hl_r_Pats:=hz0.2.1
 have hl_r_Conds:=hz0.2.2.1
 have hl_r_Acts:=hz0.2.2.2
 clear hp hb
 rw[Zv115 r]
 dsimp only
 have hF:ruleOkI r=false→ruleOk r=false:=fun h=>by rw[←ruleOkI_eq];exact h
 refine if_not (fun a1=>Lf_ff (hF (by simp[ruleOkI,a1]))) (fun a1=>if_not (fun a2=>Lf_ff (hF (by simp only[ruleOkI,a2];simp))) (fun a2=>if_not (fun a3=>Lf_ff (hF ?_)) (fun a3=>if_dec (fun a4=>Lf_ff (hF ?_)) (fun a4=>if_not (fun a5=>Lf_ff (hF ?_)) (fun a5=> ?_)))))
 ·rw[patsOkI_eq] at a3;simp[ruleOkI,a3]
 ·simp only[ruleOkI];rw[decide_eq_false (p:=r.Conds.length≤6) (by omega)];simp
 ·have a5:=of_decide_eq_false a5
  simp only[ruleOkI];rw[decide_eq_false (p:=1≤r.Acts.length∧r.Acts.length≤6) (by omega)];simp
 rw[patsOkI_eq] at a3
 have a5:=of_decide_eq_true a5
 refine⟨⟨rfl,by omega,by omega,rfl⟩,?_⟩
 rintro⟨i,⟨b1,b2,b3,b4,b5,⟨⟩⟩,⟨⟩⟩ ⟨hbx,h1,h2,hR⟩
 cases hbx
 simp only
 refine if_dec (fun hc=> ?_) (fun hc=> ?_)
 ·rw[all_step _ _ zCond h1 (by omega)] at hR
  rw[wrap_i64 (by omega) (by omega)]
  refine⟨by omega,by omega,if_not (fun g=>Lf_ff (hF ?_)) (fun g=>⟨⟨rfl,by omega,by omega,?_⟩,by simp only[Zm115_6];omega⟩)⟩
  ·simp only[ruleOkI,←hR,g];simp
  ·rw[←hR,g];rfl
 rw[drop_end _ (by omega)] at hR
 have a6:r.Conds.all kondOk=true:=hR.symm
 refine⟨⟨rfl,by omega,by omega,rfl⟩,?_⟩
 rintro⟨i,⟨b1,b2,b3,b4,b5,⟨⟩⟩,⟨⟩⟩ ⟨hbx,g1,g2,gR⟩
 cases hbx
 simp only
 refine if_dec (fun hc=> ?_) (fun hc=> ?_)
 ·rw[all_step _ _ zAct g1 (by omega)] at gR
  rw[wrap_i64 (by omega) (by omega)]
  have hN:(actOk (List.getD r.Acts i.toNat zAct)&&dropIn (posN r.Pats) (List.getD r.Acts i.toNat zAct))=false→ruleOk r=false:=fun h=>hF (by simp only[ruleOkI,←gR,h];simp)
  have hgo:actOk (List.getD r.Acts i.toNat zAct)=true→dropIn (posN r.Pats) (List.getD r.Acts i.toNat zAct)=true→(r.Acts.drop (i+1).toNat).all (fun a=>actOk a&&dropIn (posN r.Pats) a)=r.Acts.all (fun a=>actOk a&&dropIn (posN r.Pats) a):=fun e1 e2=>by rw[←gR,e1,e2];rfl
  refine⟨by omega,by omega,if_not (fun ha=>Lf_ff (hN (by rw[ha];rfl))) (fun ha=>if_num (fun hk2=>if_dec (fun hp=>Lf_ff (hN ?_)) (fun hp=>⟨⟨rfl,by omega,by omega,hgo ha ?_⟩,by simp only[Zm115_12];omega⟩)) (fun hk2=>⟨⟨rfl,by omega,by omega,hgo ha ?_⟩,by simp only[Zm115_12];omega⟩))⟩
  ·simp only[dropIn,hk2,decide_eq_true (show(posN r.Pats:Int)≤(List.getD r.Acts i.toNat zAct).N from hp)];simp
  ·simp only[dropIn,decide_eq_false (show¬(posN r.Pats:Int)≤(List.getD r.Acts i.toNat zAct).N from hp)];simp
  ·simp only[dropIn,decide_eq_false hk2];simp
 rw[drop_end _ (by omega)] at gR
 have a7:r.Acts.all (fun a=>actOk a&&dropIn (posN r.Pats) a)=true:=gR.symm
 have hpa:=patsOk_args a3
 have hus:=actsOk_used (l:=r.Acts) (by omega) (fun a ha=>by
  have:=List.all_eq_true.1 a7 a ha
  simp only[Bool.and_eq_true] at this
  exact this.1)
 have hul:(usedV r).length≤2*r.Conds.length+usedN r.Acts:=by
  have q1:=usedAs_len r.Acts (r.Conds.foldl usedC [])
  have q2:=usedCs_len r.Conds []
  simp only[List.length_nil] at q2
  simp only[usedV];omega
 refine⟨by omega,by omega,⟨rfl,rfl,by omega,by omega,rfl⟩,?_⟩
 rintro⟨i,v,u,⟨⟩⟩ ⟨rfl,rfl,k1,k2,kR⟩
 simp only
 refine if_dec (fun hk=> ?_) (fun hk=> ?_)
 ·rw[all_step _ _ noBytes k1 hk] at kR
  rw[wrap_i64 (by omega) (by omega)]
  have hk':i<(usedV r).length:=hk
  refine⟨by omega,by omega,by omega,if_not (fun g=>Lf_ff (hF ?_)) (fun g=>⟨⟨rfl,rfl,by omega,by omega,?_⟩,by simp only[Zm115_19];omega⟩)⟩
  ·simp only[ruleOkI,←kR,g];simp
  ·rw[←kR,g];rfl
 ·have hk':¬i<(usedV r).length:=hk
  rw[drop_end _ (by omega)] at kR
  refine Lf_tt ?_
  rw[←ruleOkI_eq]
  simp only[ruleOkI,a1,a2,a3,a6,a7,←kR,decide_eq_true (show r.Conds.length≤6 by omega),decide_eq_true (show 1≤r.Acts.length∧r.Acts.length≤6 by omega)];rfl
def Zh115:HH:=⟨_,Zo115⟩
def daRule(x:DRule):DA UU:=⟨true,[.lit (.string x.Name),.lit (.int .i64 x.Sal),.sl .ePat x.Pats,.sl .eCond x.Conds,.sl .eAct x.Acts]⟩
def ruleAt(l:List DRule)(name:ByteArray):Int:=idxI l.length fun k=>decide ((List.getD l k zRule).Name=name)
def defAtR(l:List DRule)(i:Nat):Bool:=ruleOk (List.getD l i zRule)&&decide (ruleAt l (List.getD l i zRule).Name=i)
def defOk(d:DDef):Bool:=nameOk d.Name&&decide (1≤d.Rules.length∧d.Rules.length≤12)&&allI d.Rules.length (defAtR d.Rules)
theorem rule_size{l:List DRule}{i:Int}(h0:0≤i)(h:i<l.length):patArgs (List.getD l i.toNat zRule).Pats≤sizeRuleS l:=by
 have hs:=sum_getD_le sizeRule l zRule h0 h
 have hp:=patArgs_size (List.getD l i.toNat zRule).Pats
 simp only[sizeRule] at hs
 simp only[sizeRuleS,sizeRule];omega
def hasR(d:DDef)(m:DMatch):Bool:=decide (0≤m.Rule)&&decide (m.Rule<(d.Rules.length:Int))
end
end AM
