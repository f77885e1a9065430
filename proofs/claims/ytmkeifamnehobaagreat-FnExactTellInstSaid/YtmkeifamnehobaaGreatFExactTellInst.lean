/- Functions of the program with their contracts: put together by gen/link.py for FnExactTellInst. -/
import Derived.Test.YtmkeifamnehobaaGreatAmLib
namespace AM
open Go
set_option linter.unusedVariables false
set_option linter.unusedSimpArgs false
set_option maxRecDepth 100000
noncomputable section
instance:DecidableEq DVal:=fun _ _=>Classical.propDecidable _
instance:DecidableEq DFact:=fun _ _=>Classical.propDecidable _
instance:DecidableEq DItem:=fun _ _=>Classical.propDecidable _
instance:DecidableEq DStore:=fun _ _=>Classical.propDecidable _
instance:DecidableEq DArg:=fun _ _=>Classical.propDecidable _
instance:DecidableEq DPat:=fun _ _=>Classical.propDecidable _
instance:DecidableEq DBind:=fun _ _=>Classical.propDecidable _
instance:DecidableEq DCond:=fun _ _=>Classical.propDecidable _
instance:DecidableEq DExpr:=fun _ _=>Classical.propDecidable _
instance:DecidableEq DAct:=fun _ _=>Classical.propDecidable _
instance:DecidableEq DRule:=fun _ _=>Classical.propDecidable _
instance:DecidableEq DDef:=fun _ _=>Classical.propDecidable _
instance:DecidableEq DMatch:=fun _ _=>Classical.propDecidable _
instance:DecidableEq DTimer:=fun _ _=>Classical.propDecidable _
instance:DecidableEq DTask:=fun _ _=>Classical.propDecidable _
instance:DecidableEq DUndo:=fun _ _=>Classical.propDecidable _
instance:DecidableEq DInst:=fun _ _=>Classical.propDecidable _
def mtl:Nat→Nat→List UInt8→List UInt8
 |0,_,acc=>acc
 |d+1,k,acc=>if k=0 then acc else mtl d (k/10) ((UInt8.ofNat (48+k%10))::acc)
def markText(k:Int):ByteArray:=if k≤0 then⟨#[109,48]⟩ else⟨(109::mtl k.toNat k.toNat []).toArray⟩
def markBool(k:Int):Bool:=decide (k%3=0)
def mkS{α:Type}(f:α→Int→α)(c:α→Nat):List α→Int→List α
 |[],_=>[]
 |x::r,k=>f x k::mkS f c r (k+c x)
def ctS{α:Type}(c:α→Nat)(l:List α):Nat:=(l.map c).sum
theorem mkS_len{α:Type}(f:α→Int→α)(c:α→Nat):∀(l:List α)(k:Int),(mkS f c l k).length=l.length
 |[],_=>rfl
 |x::r,k=>by simp[mkS,mkS_len f c r]
theorem mkS_ct{α:Type}{f:α→Int→α}{c:α→Nat}(h:∀x k,c (f x k)=c x):∀(l:List α)(k:Int),ctS c (mkS f c l k)=ctS c l
 |[],_=>rfl
 |x::r,k=>by have:=mkS_ct h r (k+c x);simp only[ctS,mkS,zbt,zdc,h] at*;omega
theorem mkS_idem{α:Type}{f:α→Int→α}{c:α→Nat}(h:∀x k,c (f x k)=c x)(h':∀x k,f (f x k) k=f x k):∀(l:List α)(k:Int),mkS f c (mkS f c l k) k=mkS f c l k
 |[],_=>rfl
 |x::r,k=>by simp only[mkS,h,h',mkS_idem h h' r]
theorem ctS_cons{α:Type}(c:α→Nat)(x:α)(l:List α):ctS c (x::l)=c x+ctS c l:=by simp[ctS]
theorem ctS_append{α:Type}(c:α→Nat)(l m:List α):ctS c (l++m)=ctS c l+ctS c m:=by simp[ctS]
theorem ctS_le{α:Type}{c s:α→Nat}(h:∀x,c x≤20*s x+20):∀l:List α,ctS c l≤20*(l.length+(l.map s).sum)
 |[]=>zca _
 |x::r=>by have:=ctS_le h r;have:=h x;simp only[ctS,zbt,zdc,zbq] at*;omega
theorem ctS_take{α:Type}(c:α→Nat)(l:List α)(z:α){i:Int}(h0:0≤i)(h:i<l.length):ctS c (l.take (i+1).toNat)=ctS c (l.take i.toNat)+c (List.getD l i.toNat z):=by
 have hn:i.toNat<l.length:=by omega
 have e:(i+1).toNat=i.toNat+1:=by omega
 rw[e,zcz hn,ctS_append,zac,zad hn]
 simp[ctS]
theorem ctS_take_le{α:Type}(c:α→Nat)(l:List α)(n:Nat):ctS c (l.take n)≤ctS c l:=by
 have h:=ctS_append c (l.take n) (l.drop n)
 rw[zcq] at h
 omega
theorem mkS_append{α:Type}(f:α→Int→α)(c:α→Nat):∀(l m:List α)(k:Int),mkS f c (l++m) k=mkS f c l k++mkS f c m (k+ctS c l)
 |[],m,k=>by simp[mkS,ctS]
 |x::r,m,k=>by simp only[zex,mkS,mkS_append f c r m,ctS_cons];congr 3;omega
theorem mkS_step{α:Type}(f:α→Int→α)(c:α→Nat)(l:List α)(z:α)(k:Int){i:Int}(h0:0≤i)(h:i<l.length):
  ((mkS f c l k).take i.toNat++l.drop i.toNat).set i.toNat (f (List.getD l i.toNat z) (k+ctS c (l.take i.toNat)))=(mkS f c l k).take (i+1).toNat++l.drop (i+1).toNat:=by
 have hn:i.toNat<l.length:=by omega
 have e:(i+1).toNat=i.toNat+1:=by omega
 have hl:((mkS f c l k).take i.toNat).length=i.toNat:=by rw[zaw,mkS_len];omega
 have hm:(mkS f c l k)[i.toNat]? =some (f (List.getD l i.toNat z) (k+ctS c (l.take i.toNat))):=by
  have h1:l=l.take i.toNat++List.getD l i.toNat z::l.drop (i+1).toNat:=by rw[←drop_step l z h0 h,zcq]
  have h2:=congrArg (fun q=>(mkS f c q k)[i.toNat]?) h1
  simp only[mkS_append,mkS] at h2
  rw[h2,zap (by rw[mkS_len,zaw];omega),mkS_len]
  have:i.toNat-(l.take i.toNat).length=0:=by simp;omega
  rw[this];rfl
 have hm':i.toNat<(mkS f c l k).length:=by rw[mkS_len];exact hn
 rw[zad hm',zae] at hm
 rw[drop_step l z h0 h,List.set_append_right _ _ (by rw[hl];exact zca _),hl,zev,List.set_cons_zero,e,zcz hm',hm,zbr]
 rfl
theorem mk_getD{α:Type}(p:List α)(l:List α)(z:α){i:Int}(hp:p.length=i.toNat)(h0:0≤i)(h:i<l.length):List.getD (p++l.drop i.toNat) i.toNat z=List.getD l i.toNat z:=by
 rw[zac,zac,zap (by omega),hp,zev,zbv,zcv]
theorem sum_getD_le{α:Type}(f:α→Nat)(l:List α)(z:α){i:Int}(h0:0≤i)(h:i<l.length):f (List.getD l i.toNat z)≤(l.map f).sum:=by
 have h1:l=l.take i.toNat++List.getD l i.toNat z::l.drop (i+1).toNat:=by rw[←drop_step l z h0 h,zcq]
 have h2:=congrArg (fun q=>(q.map f).sum) h1
 simp only[zef,zbt,zet,zdc] at h2
 omega
theorem getD_modify{α:Type}(l:List α)(z:α)(f:α→α)(i:Nat)(h:i<l.length):List.getD (l.modify i f) i z=f (List.getD l i z):=by
 rw[zac,zac,zei,zad h];simp
theorem modify_modify{α:Type}(l:List α)(f g:α→α)(i:Nat):(l.modify i f).modify i g=l.modify i (fun x=>g (f x)):=List.modify_modify_eq f g i l
theorem modify_set{α:Type}(l:List α)(z:α)(f:α→α)(i:Nat):l.modify i f=l.set i (f (List.getD l i z)):=by
 refine zcx fun j=> ?_
 rw[zei,zdh]
 by_cases hj:i=j
 ·subst hj
  rw[if_pos rfl]
  by_cases hi:i<l.length
  ·rw[if_pos hi,zad hi,zac,zad hi];simp
  ·rw[if_neg hi,zaj (by omega)];rfl
 ·rw[if_neg hj];simp[hj]
theorem mk_tl{α:Type}(f:α→Int→α)(c:α→Nat)(l:List α)(k:Int){i:Int}(h0:0≤i)(h:i≤l.length):((mkS f c l k).take i.toNat).length=i.toNat:=by rw[zaw,mkS_len];omega
theorem mk_rl{α:Type}(f:α→Int→α)(c:α→Nat)(l:List α)(k:Int){i:Int}(h0:0≤i)(h:i≤l.length):((mkS f c l k).take i.toNat++l.drop i.toNat).length=l.length:=by rw[zce,mk_tl f c l k h0 h,zcs];omega
theorem mkS_mod{α:Type}(f:α→Int→α)(c:α→Nat)(l:List α)(z:α)(k:Int){i:Int}(F:α→α)(h0:0≤i)(h:i<l.length)(hF:F (List.getD l i.toNat z)=f (List.getD l i.toNat z) (k+ctS c (l.take i.toNat))):
  ((mkS f c l k).take i.toNat++l.drop i.toNat).modify i.toNat F=(mkS f c l k).take (i+1).toNat++l.drop (i+1).toNat:=by
 rw[modify_set _ z,mk_getD _ l z (mk_tl f c l k h0 (by omega)) h0 h,hF]
 exact mkS_step f c l z k h0 h
theorem mk_done{α:Type}(f:α→Int→α)(c:α→Nat)(l:List α)(k:Int){i:Int}(h:l.length≤i):(mkS f c l k).take i.toNat++l.drop i.toNat=mkS f c l k:=by
 rw[List.drop_eq_nil_of_le (by omega),zch,zcy (by rw[mkS_len];omega)]
theorem ct_done{α:Type}(c:α→Nat)(l:List α){i:Int}(h:l.length≤i):ctS c (l.take i.toNat)=ctS c l:=by rw[zcy (by omega)]
theorem Lf_no{p:Prop}[Decidable p]{n:Int}(h:¬p):Lf [.one (.lit (.int .i64 (-1)))] [.one (.lit (.int .i64 (if p then n else-1)))]:=by rw[if_neg h];exact Lf_rfl _
theorem Lf_yes{p:Prop}[Decidable p]{m n:Int}(h:p)(e:m=n):Lf [.one (.lit (.int .i64 m))] [.one (.lit (.int .i64 (if p then n else-1)))]:=by rw[if_pos h,e];exact Lf_rfl _
theorem bne_int{a b:Int}:(a !=b)= !decide (a=b):=by by_cases h:a=b<;>simp[h,bne]
theorem mtl_zero(d:Nat)(acc:List UInt8):mtl d 0 acc=acc:=by cases d<;>simp[mtl]
theorem all_step{α:Type}(p:α→Bool)(l:List α)(z:α){i:Int}(h0:0≤i)(h:i<l.length):(l.drop i.toNat).all p=(p (List.getD l i.toNat z)&&(l.drop (i+1).toNat).all p):=by
 rw[drop_step l z h0 h,zdr]
def bs(s:ByteArray):List UInt8:=s.data.toList
theorem bs_len(s:ByteArray):(bs s).length=s.size:=zbn
theorem bs_eq(s:ByteArray):Array.toList (ByteArray.data s)=bs s:=rfl
def byteP(p:Int→Bool)(b:UInt8):Bool:=p b.toNat
theorem u8_i64(b:UInt8):IntKind.wrap .i64 (b.toNat:Int)=b.toNat:=wrap_i64 (by omega) (by have:=b.toNat_lt;omega)
theorem Lf_tt{y:Bool}(h:y=true):Lf [.one (.lit (.bool true))] [.one (.lit (.bool y))]:=Lf_b h.symm
theorem Lf_ff{y:Bool}(h:y=false):Lf [.one (.lit (.bool false))] [.one (.lit (.bool y))]:=Lf_b h.symm
theorem take_step{α:Type}(l:List α)(z:α){i:Int}(h0:0≤i)(h:i<l.length):l.take i.toNat++[List.getD l i.toNat z]=l.take (i+1).toNat:=by
 have hn:i.toNat<l.length:=by omega
 have e:(i+1).toNat=i.toNat+1:=by omega
 rw[e,zcz hn,zac,zad hn]
 rfl
theorem take_all{α:Type}(l:List α){i:Int}(h:l.length≤i):l.take i.toNat=l:=zcy (by omega)
theorem szr_neg{a:Int}{n:Nat}(h:decide (szr a n<0)=true):a<n:=by
 have h:=of_decide_eq_true h
 unfold szr at h;split at h<;>omega
theorem szr_pos{a:Int}{n:Nat}(h:decide (szr a n<0)=false):szr a n=a-n∧(n:Int)≤a:=by
 have h:=of_decide_eq_false h
 unfold szr at h⊢;split at h
 ·rename_i g;rw[if_pos g];exact⟨rfl,g⟩
 ·omega
theorem szr_bad'{a:Int}{n:Nat}(h:a<n): -1=szr a n:=by simp only[szr];rw[if_neg (by omega)]
theorem szr_ok'{a:Int}{n:Nat}(h:(n:Int)≤a):a-n=szr a n:=by simp only[szr];rw[if_pos h]
def sizeIntS(l:List Int):Nat:=l.length
def markIntS:List Int→Int→List Int:=mkS (fun _ k=>k) (fun _=>1)
def cntIntS(l:List Int):Nat:=ctS (fun _=>1) l
theorem markIntS_ct(l:List Int)(k:Int):cntIntS (markIntS l k)=cntIntS l:=mkS_ct (c:=fun _=>1) (fun _ _=>rfl) l k
theorem markIntS_idem(l:List Int)(k:Int):markIntS (markIntS l k) k=markIntS l k:=mkS_idem (f:=fun _ k=>k) (c:=fun _=>1) (fun _ _=>rfl) (fun _ _=>rfl) l k
theorem ctS_one{α:Type}:∀l:List α,ctS (fun _=>1) l=l.length
 |[]=>rfl
 |x::r=>by rw[ctS_cons,ctS_one r,zbq];omega
theorem cntIntS_le(l:List Int):cntIntS l≤20*sizeIntS l:=by simp only[cntIntS,sizeIntS,ctS_one];omega
def sizeVal(a:DVal):Nat:=a.S.size
def sizeValS(l:List DVal):Nat:=l.length+(l.map sizeVal).sum
def markVal(a:DVal)(k:Int):DVal:=⟨k,(k+1),markText (k+1+1)⟩
def cntVal(a:DVal):Nat:=1+1+1
def markValS:List DVal→Int→List DVal:=mkS markVal cntVal
def cntValS(l:List DVal):Nat:=ctS cntVal l
theorem markVal_ct(a:DVal)(k:Int):cntVal (markVal a k)=cntVal a:=by simp only[cntVal,markVal]
theorem markVal_idem(a:DVal)(k:Int):markVal (markVal a k) k=markVal a k:=by simp only[markVal]
theorem cntVal_le(a:DVal):cntVal a≤20*sizeVal a+20:=by simp only[cntVal,sizeVal];omega
theorem markValS_ct(l:List DVal)(k:Int):cntValS (markValS l k)=cntValS l:=mkS_ct markVal_ct l k
theorem markValS_idem(l:List DVal)(k:Int):markValS (markValS l k) k=markValS l k:=mkS_idem markVal_ct markVal_idem l k
theorem cntValS_le(l:List DVal):cntValS l≤20*sizeValS l:=ctS_le cntVal_le l
def sizeFact(a:DFact):Nat:=a.Kind.size+sizeValS a.Fields
def mkFact(a:DFact)(k:Int):DFact:=⟨a.Kind,markValS a.Fields k⟩
def ctFact(a:DFact):Nat:=cntValS a.Fields
theorem ctFact_le(a:DFact):ctFact a≤20*sizeFact a:=by have:=cntValS_le a.Fields;simp only[ctFact,sizeFact];omega
def sizeItem(a:DItem):Nat:=sizeFact a.F
def sizeItemS(l:List DItem):Nat:=l.length+(l.map sizeItem).sum
def markItem(a:DItem)(k:Int):DItem:=⟨k,⟨markText (k+1),markValS a.F.Fields (k+1+1)⟩⟩
def cntItem(a:DItem):Nat:=1+1+cntValS a.F.Fields
def markItemS:List DItem→Int→List DItem:=mkS markItem cntItem
def cntItemS(l:List DItem):Nat:=ctS cntItem l
theorem markItem_ct(a:DItem)(k:Int):cntItem (markItem a k)=cntItem a:=by simp only[cntItem,markItem,markValS_ct]
theorem markItem_idem(a:DItem)(k:Int):markItem (markItem a k) k=markItem a k:=by simp only[markItem,markValS_ct,markValS_idem]
theorem cntItem_le(a:DItem):cntItem a≤20*sizeItem a+20:=by have:=cntValS_le a.F.Fields;simp only[cntItem,sizeFact,sizeItem];omega
theorem markItemS_ct(l:List DItem)(k:Int):cntItemS (markItemS l k)=cntItemS l:=mkS_ct markItem_ct l k
theorem markItemS_idem(l:List DItem)(k:Int):markItemS (markItemS l k) k=markItemS l k:=mkS_idem markItem_ct markItem_idem l k
theorem cntItemS_le(l:List DItem):cntItemS l≤20*sizeItemS l:=ctS_le cntItem_le l
def sizeStore(a:DStore):Nat:=sizeItemS a.Items
def mkStore(a:DStore)(k:Int):DStore:=⟨markItemS a.Items k,a.Next⟩
def ctStore(a:DStore):Nat:=cntItemS a.Items
theorem mkStore_ct(a:DStore)(k:Int):ctStore (mkStore a k)=ctStore a:=by simp only[ctStore,mkStore,markItemS_ct]
theorem mkStore_idem(a:DStore)(k:Int):mkStore (mkStore a k) k=mkStore a k:=by simp only[mkStore,markItemS_ct,markItemS_idem]
theorem ctStore_le(a:DStore):ctStore a≤20*sizeStore a:=by have:=cntItemS_le a.Items;simp only[ctStore,sizeStore];omega
def sizeArg(a:DArg):Nat:=a.S.size+sizeVal a.V
def sizeArgS(l:List DArg):Nat:=l.length+(l.map sizeArg).sum
def markArg(a:DArg)(k:Int):DArg:=⟨k,markText (k+1),⟨(k+1+1),(k+1+1+1),markText (k+1+1+1+1)⟩⟩
def cntArg(a:DArg):Nat:=1+1+1+1+1
def markArgS:List DArg→Int→List DArg:=mkS markArg cntArg
def cntArgS(l:List DArg):Nat:=ctS cntArg l
theorem cntArg_le(a:DArg):cntArg a≤20*sizeArg a+20:=by simp only[cntArg,sizeArg,sizeVal];omega
theorem cntArgS_le(l:List DArg):cntArgS l≤20*sizeArgS l:=ctS_le cntArg_le l
def sizePat(a:DPat):Nat:=a.Kind.size+sizeArgS a.Args
def sizePatS(l:List DPat):Nat:=l.length+(l.map sizePat).sum
def markPat(a:DPat)(k:Int):DPat:=⟨markText k,markArgS a.Args (k+1),markBool (k+1+cntArgS a.Args)⟩
def cntPat(a:DPat):Nat:=1+cntArgS a.Args+1
def markPatS:List DPat→Int→List DPat:=mkS markPat cntPat
def cntPatS(l:List DPat):Nat:=ctS cntPat l
theorem cntPat_le(a:DPat):cntPat a≤20*sizePat a+20:=by have:=cntArgS_le a.Args;simp only[cntPat,sizePat];omega
theorem cntPatS_le(l:List DPat):cntPatS l≤20*sizePatS l:=ctS_le cntPat_le l
def sizeBind(a:DBind):Nat:=a.Name.size+sizeVal a.V
def sizeBindS(l:List DBind):Nat:=l.length+(l.map sizeBind).sum
def markBind(a:DBind)(k:Int):DBind:=⟨markText k,⟨(k+1),(k+1+1),markText (k+1+1+1)⟩⟩
def cntBind(a:DBind):Nat:=1+1+1+1
def markBindS:List DBind→Int→List DBind:=mkS markBind cntBind
def cntBindS(l:List DBind):Nat:=ctS cntBind l
theorem markBind_ct(a:DBind)(k:Int):cntBind (markBind a k)=cntBind a:=by simp only[cntBind,markBind]
theorem markBind_idem(a:DBind)(k:Int):markBind (markBind a k) k=markBind a k:=by simp only[markBind]
theorem cntBind_le(a:DBind):cntBind a≤20*sizeBind a+20:=by simp only[cntBind,sizeBind,sizeVal];omega
theorem markBindS_ct(l:List DBind)(k:Int):cntBindS (markBindS l k)=cntBindS l:=mkS_ct markBind_ct l k
theorem markBindS_idem(l:List DBind)(k:Int):markBindS (markBindS l k) k=markBindS l k:=mkS_idem markBind_ct markBind_idem l k
theorem cntBindS_le(l:List DBind):cntBindS l≤20*sizeBindS l:=ctS_le cntBind_le l
def sizeCond(a:DCond):Nat:=sizeArg a.L+sizeArg a.R
def sizeCondS(l:List DCond):Nat:=l.length+(l.map sizeCond).sum
def markCond(a:DCond)(k:Int):DCond:=⟨k,⟨(k+1),markText (k+1+1),⟨(k+1+1+1),(k+1+1+1+1),markText (k+1+1+1+1+1)⟩⟩,⟨(k+1+1+1+1+1+1),markText (k+1+1+1+1+1+1+1),⟨(k+1+1+1+1+1+1+1+1),(k+1+1+1+1+1+1+1+1+1),markText (k+1+1+1+1+1+1+1+1+1+1)⟩⟩⟩
def cntCond(a:DCond):Nat:=1+1+1+1+1+1+1+1+1+1+1
def markCondS:List DCond→Int→List DCond:=mkS markCond cntCond
def cntCondS(l:List DCond):Nat:=ctS cntCond l
theorem cntCond_le(a:DCond):cntCond a≤20*sizeCond a+20:=by simp only[cntCond,sizeArg,sizeCond,sizeVal];omega
theorem cntCondS_le(l:List DCond):cntCondS l≤20*sizeCondS l:=ctS_le cntCond_le l
def sizeExpr(a:DExpr):Nat:=a.Op.size+sizeArg a.L+sizeArg a.R
def sizeExprS(l:List DExpr):Nat:=l.length+(l.map sizeExpr).sum
def markExpr(a:DExpr)(k:Int):DExpr:=⟨markText k,⟨(k+1),markText (k+1+1),⟨(k+1+1+1),(k+1+1+1+1),markText (k+1+1+1+1+1)⟩⟩,⟨(k+1+1+1+1+1+1),markText (k+1+1+1+1+1+1+1),⟨(k+1+1+1+1+1+1+1+1),(k+1+1+1+1+1+1+1+1+1),markText (k+1+1+1+1+1+1+1+1+1+1)⟩⟩⟩
def cntExpr(a:DExpr):Nat:=1+1+1+1+1+1+1+1+1+1+1
def markExprS:List DExpr→Int→List DExpr:=mkS markExpr cntExpr
def cntExprS(l:List DExpr):Nat:=ctS cntExpr l
theorem cntExpr_le(a:DExpr):cntExpr a≤20*sizeExpr a+20:=by simp only[cntExpr,sizeArg,sizeExpr,sizeVal];omega
theorem cntExprS_le(l:List DExpr):cntExprS l≤20*sizeExprS l:=ctS_le cntExpr_le l
def sizeAct(a:DAct):Nat:=a.Name.size+sizeExprS a.Args+a.Undo.size
def sizeActS(l:List DAct):Nat:=l.length+(l.map sizeAct).sum
def markAct(a:DAct)(k:Int):DAct:=⟨k,markText (k+1),markExprS a.Args (k+1+1),(k+1+1+cntExprS a.Args),markText (k+1+1+cntExprS a.Args+1)⟩
def cntAct(a:DAct):Nat:=1+1+cntExprS a.Args+1+1
def markActS:List DAct→Int→List DAct:=mkS markAct cntAct
def cntActS(l:List DAct):Nat:=ctS cntAct l
theorem cntAct_le(a:DAct):cntAct a≤20*sizeAct a+20:=by have:=cntExprS_le a.Args;simp only[cntAct,sizeAct];omega
theorem cntActS_le(l:List DAct):cntActS l≤20*sizeActS l:=ctS_le cntAct_le l
def sizeRule(a:DRule):Nat:=a.Name.size+sizePatS a.Pats+sizeCondS a.Conds+sizeActS a.Acts
def sizeRuleS(l:List DRule):Nat:=l.length+(l.map sizeRule).sum
def markRule(a:DRule)(k:Int):DRule:=⟨markText k,(k+1),markPatS a.Pats (k+1+1),markCondS a.Conds (k+1+1+cntPatS a.Pats),markActS a.Acts (k+1+1+cntPatS a.Pats+cntCondS a.Conds)⟩
def cntRule(a:DRule):Nat:=1+1+cntPatS a.Pats+cntCondS a.Conds+cntActS a.Acts
def markRuleS:List DRule→Int→List DRule:=mkS markRule cntRule
def cntRuleS(l:List DRule):Nat:=ctS cntRule l
theorem cntRule_le(a:DRule):cntRule a≤20*sizeRule a+20:=by have:=cntPatS_le a.Pats;have:=cntCondS_le a.Conds;have:=cntActS_le a.Acts;simp only[cntRule,sizeRule];omega
theorem cntRuleS_le(l:List DRule):cntRuleS l≤20*sizeRuleS l:=ctS_le cntRule_le l
def sizeDef(a:DDef):Nat:=a.Name.size+sizeRuleS a.Rules
def mkDef(a:DDef)(k:Int):DDef:=⟨a.Name,markRuleS a.Rules k⟩
def ctDef(a:DDef):Nat:=cntRuleS a.Rules
theorem ctDef_le(a:DDef):ctDef a≤20*sizeDef a:=by have:=cntRuleS_le a.Rules;simp only[ctDef,sizeDef];omega
def sizeMatch(a:DMatch):Nat:=sizeIntS a.Ids+sizeBindS a.Binds
def sizeMatchS(l:List DMatch):Nat:=l.length+(l.map sizeMatch).sum
def markMatch(a:DMatch)(k:Int):DMatch:=⟨k,markIntS a.Ids (k+1),markBindS a.Binds (k+1+cntIntS a.Ids)⟩
def cntMatch(a:DMatch):Nat:=1+cntIntS a.Ids+cntBindS a.Binds
def markMatchS:List DMatch→Int→List DMatch:=mkS markMatch cntMatch
def cntMatchS(l:List DMatch):Nat:=ctS cntMatch l
theorem markMatch_ct(a:DMatch)(k:Int):cntMatch (markMatch a k)=cntMatch a:=by simp only[cntMatch,markMatch,markBindS_ct,markIntS_ct]
theorem markMatch_idem(a:DMatch)(k:Int):markMatch (markMatch a k) k=markMatch a k:=by simp only[markMatch,markBindS_ct,markBindS_idem,markIntS_ct,markIntS_idem]
theorem cntMatch_le(a:DMatch):cntMatch a≤20*sizeMatch a+20:=by have:=cntIntS_le a.Ids;have:=cntBindS_le a.Binds;simp only[cntMatch,sizeMatch];omega
theorem markMatchS_ct(l:List DMatch)(k:Int):cntMatchS (markMatchS l k)=cntMatchS l:=mkS_ct markMatch_ct l k
theorem markMatchS_idem(l:List DMatch)(k:Int):markMatchS (markMatchS l k) k=markMatchS l k:=mkS_idem markMatch_ct markMatch_idem l k
theorem cntMatchS_le(l:List DMatch):cntMatchS l≤20*sizeMatchS l:=ctS_le cntMatch_le l
def sizeTimer(a:DTimer):Nat:=sizeFact a.F
def sizeTimerS(l:List DTimer):Nat:=l.length+(l.map sizeTimer).sum
def markTimer(a:DTimer)(k:Int):DTimer:=⟨k,⟨markText (k+1),markValS a.F.Fields (k+1+1)⟩⟩
def cntTimer(a:DTimer):Nat:=1+1+cntValS a.F.Fields
def markTimerS:List DTimer→Int→List DTimer:=mkS markTimer cntTimer
def cntTimerS(l:List DTimer):Nat:=ctS cntTimer l
theorem markTimer_ct(a:DTimer)(k:Int):cntTimer (markTimer a k)=cntTimer a:=by simp only[cntTimer,markTimer,markValS_ct]
theorem markTimer_idem(a:DTimer)(k:Int):markTimer (markTimer a k) k=markTimer a k:=by simp only[markTimer,markValS_ct,markValS_idem]
theorem cntTimer_le(a:DTimer):cntTimer a≤20*sizeTimer a+20:=by have:=cntValS_le a.F.Fields;simp only[cntTimer,sizeFact,sizeTimer];omega
theorem markTimerS_ct(l:List DTimer)(k:Int):cntTimerS (markTimerS l k)=cntTimerS l:=mkS_ct markTimer_ct l k
theorem markTimerS_idem(l:List DTimer)(k:Int):markTimerS (markTimerS l k) k=markTimerS l k:=mkS_idem markTimer_ct markTimer_idem l k
theorem cntTimerS_le(l:List DTimer):cntTimerS l≤20*sizeTimerS l:=ctS_le cntTimer_le l
def sizeTask(a:DTask):Nat:=sizeFact a.F+a.Undo.size+sizeVal a.V
def sizeTaskS(l:List DTask):Nat:=l.length+(l.map sizeTask).sum
def markTask(a:DTask)(k:Int):DTask:=⟨⟨markText k,markValS a.F.Fields (k+1)⟩,markText (k+1+cntValS a.F.Fields),(k+1+cntValS a.F.Fields+1),(k+1+cntValS a.F.Fields+1+1),(k+1+cntValS a.F.Fields+1+1+1),⟨(k+1+cntValS a.F.Fields+1+1+1+1),(k+1+cntValS a.F.Fields+1+1+1+1+1),markText (k+1+cntValS a.F.Fields+1+1+1+1+1+1)⟩⟩
def cntTask(a:DTask):Nat:=1+cntValS a.F.Fields+1+1+1+1+1+1+1
def markTaskS:List DTask→Int→List DTask:=mkS markTask cntTask
def cntTaskS(l:List DTask):Nat:=ctS cntTask l
theorem markTask_ct(a:DTask)(k:Int):cntTask (markTask a k)=cntTask a:=by simp only[cntTask,markTask,markValS_ct]
theorem markTask_idem(a:DTask)(k:Int):markTask (markTask a k) k=markTask a k:=by simp only[markTask,markValS_ct,markValS_idem]
theorem cntTask_le(a:DTask):cntTask a≤20*sizeTask a+20:=by have:=cntValS_le a.F.Fields;simp only[cntTask,sizeFact,sizeTask,sizeVal];omega
theorem markTaskS_ct(l:List DTask)(k:Int):cntTaskS (markTaskS l k)=cntTaskS l:=mkS_ct markTask_ct l k
theorem markTaskS_idem(l:List DTask)(k:Int):markTaskS (markTaskS l k) k=markTaskS l k:=mkS_idem markTask_ct markTask_idem l k
theorem cntTaskS_le(l:List DTask):cntTaskS l≤20*sizeTaskS l:=ctS_le cntTask_le l
def sizeUndo(a:DUndo):Nat:=a.Key.size+sizeFact a.F
def sizeUndoS(l:List DUndo):Nat:=l.length+(l.map sizeUndo).sum
def markUndo(a:DUndo)(k:Int):DUndo:=⟨markText k,⟨markText (k+1),markValS a.F.Fields (k+1+1)⟩⟩
def cntUndo(a:DUndo):Nat:=1+1+cntValS a.F.Fields
def markUndoS:List DUndo→Int→List DUndo:=mkS markUndo cntUndo
def cntUndoS(l:List DUndo):Nat:=ctS cntUndo l
theorem markUndo_ct(a:DUndo)(k:Int):cntUndo (markUndo a k)=cntUndo a:=by simp only[cntUndo,markUndo,markValS_ct]
theorem markUndo_idem(a:DUndo)(k:Int):markUndo (markUndo a k) k=markUndo a k:=by simp only[markUndo,markValS_ct,markValS_idem]
theorem cntUndo_le(a:DUndo):cntUndo a≤20*sizeUndo a+20:=by have:=cntValS_le a.F.Fields;simp only[cntUndo,sizeFact,sizeUndo];omega
theorem markUndoS_ct(l:List DUndo)(k:Int):cntUndoS (markUndoS l k)=cntUndoS l:=mkS_ct markUndo_ct l k
theorem markUndoS_idem(l:List DUndo)(k:Int):markUndoS (markUndoS l k) k=markUndoS l k:=mkS_idem markUndo_ct markUndo_idem l k
theorem cntUndoS_le(l:List DUndo):cntUndoS l≤20*sizeUndoS l:=ctS_le cntUndo_le l
def sizeInst(a:DInst):Nat:=sizeStore a.S+sizeMatchS a.Fired+sizeTaskS a.Tasks+sizeTimerS a.Timers+sizeUndoS a.Undos
def mkInst(a:DInst)(k:Int):DInst:=⟨mkStore a.S k,markMatchS a.Fired (k+ctStore a.S),markTaskS a.Tasks (k+ctStore a.S+cntMatchS a.Fired),markTimerS a.Timers (k+ctStore a.S+cntMatchS a.Fired+cntTaskS a.Tasks),markUndoS a.Undos (k+ctStore a.S+cntMatchS a.Fired+cntTaskS a.Tasks+cntTimerS a.Timers),a.State,a.Now⟩
def ctInst(a:DInst):Nat:=ctStore a.S+cntMatchS a.Fired+cntTaskS a.Tasks+cntTimerS a.Timers+cntUndoS a.Undos
theorem mkInst_ct(a:DInst)(k:Int):ctInst (mkInst a k)=ctInst a:=by simp only[ctInst,mkInst,markMatchS_ct,markTaskS_ct,markTimerS_ct,markUndoS_ct,mkStore_ct]
theorem mkInst_idem(a:DInst)(k:Int):mkInst (mkInst a k) k=mkInst a k:=by simp only[mkInst,markMatchS_ct,markMatchS_idem,markTaskS_ct,markTaskS_idem,markTimerS_ct,markTimerS_idem,markUndoS_ct,markUndoS_idem,mkStore_ct,mkStore_idem]
theorem ctInst_le(a:DInst):ctInst a≤20*sizeInst a:=by have:=ctStore_le a.S;have:=cntMatchS_le a.Fired;have:=cntTaskS_le a.Tasks;have:=cntTimerS_le a.Timers;have:=cntUndoS_le a.Undos;simp only[ctInst,sizeInst];omega
theorem bd_eVal{x:DVal}(h:BdDV (dA .eVal x)):x.S.size≤9223372036854775807:=Bd.str (U:=UU) (h _ (zaa _ (zaa _ (zab))))
theorem bd_lVal{x:DVal}(h:BdDV (dA .lVal x)):x.S.size≤9223372036854775807:=Bd.str (U:=UU) (h _ (zaa _ (zaa _ (zab))))
theorem bd_eFact{x:DFact}(h:BdDV (dA .eFact x)):x.Kind.size≤9223372036854775807∧x.Fields.length≤9223372036854775807:=⟨Bd.str (U:=UU) (h _ (zab)),Bd.len (U:=UU) (h _ (zaa _ (zab)))⟩
theorem bdP_eFact{x:DFact}(h:BdDV (dP .eFact x)):x.Kind.size≤9223372036854775807∧x.Fields.length≤9223372036854775807:=⟨Bd.str (U:=UU) (h _ (zab)),Bd.len (U:=UU) (h _ (zaa _ (zab)))⟩
theorem bd_lFact{x:DFact}(h:BdDV (dA .lFact x)):x.Kind.size≤9223372036854775807∧x.Fields.length≤9223372036854775807:=⟨Bd.str (U:=UU) (h _ (zab)),Bd.len (U:=UU) (h _ (zaa _ (zab)))⟩
theorem bd_eItem{x:DItem}(h:BdDV (dA .eItem x)):x.F.Kind.size≤9223372036854775807∧x.F.Fields.length≤9223372036854775807:=⟨Bd.str (U:=UU) (h _ (zaa _ (zab))),Bd.len (U:=UU) (h _ (zaa _ (zaa _ (zab))))⟩
theorem bd_lItem{x:DItem}(h:BdDV (dA .lItem x)):x.F.Kind.size≤9223372036854775807∧x.F.Fields.length≤9223372036854775807:=⟨Bd.str (U:=UU) (h _ (zaa _ (zab))),Bd.len (U:=UU) (h _ (zaa _ (zaa _ (zab))))⟩
theorem bd_eStore{x:DStore}(h:BdDV (dA .eStore x)):x.Items.length≤9223372036854775807:=Bd.len (U:=UU) (h _ (zab))
theorem bdX_eStore{x:DStore}(h:BdDV (dX .eStore x)):x.Items.length≤9223372036854775807:=Bd.len (U:=UU) (h _ (zab))
theorem bd_lStore{x:DStore}(h:BdDV (dA .lStore x)):x.Items.length≤9223372036854775807:=Bd.len (U:=UU) (h _ (zab))
theorem bd_eArg{x:DArg}(h:BdDV (dA .eArg x)):x.S.size≤9223372036854775807∧x.V.S.size≤9223372036854775807:=⟨Bd.str (U:=UU) (h _ (zaa _ (zab))),Bd.str (U:=UU) (h _ (zaa _ (zaa _ (zaa _ (zaa _ (zab))))))⟩
theorem bd_lArg{x:DArg}(h:BdDV (dA .lArg x)):x.S.size≤9223372036854775807∧x.V.S.size≤9223372036854775807:=⟨Bd.str (U:=UU) (h _ (zaa _ (zab))),Bd.str (U:=UU) (h _ (zaa _ (zaa _ (zaa _ (zaa _ (zab))))))⟩
theorem bd_ePat{x:DPat}(h:BdDV (dA .ePat x)):x.Kind.size≤9223372036854775807∧x.Args.length≤9223372036854775807:=⟨Bd.str (U:=UU) (h _ (zab)),Bd.len (U:=UU) (h _ (zaa _ (zab)))⟩
theorem bd_lPat{x:DPat}(h:BdDV (dA .lPat x)):x.Kind.size≤9223372036854775807∧x.Args.length≤9223372036854775807:=⟨Bd.str (U:=UU) (h _ (zab)),Bd.len (U:=UU) (h _ (zaa _ (zab)))⟩
theorem bd_eBind{x:DBind}(h:BdDV (dA .eBind x)):x.Name.size≤9223372036854775807∧x.V.S.size≤9223372036854775807:=⟨Bd.str (U:=UU) (h _ (zab)),Bd.str (U:=UU) (h _ (zaa _ (zaa _ (zaa _ (zab)))))⟩
theorem bd_lBind{x:DBind}(h:BdDV (dA .lBind x)):x.Name.size≤9223372036854775807∧x.V.S.size≤9223372036854775807:=⟨Bd.str (U:=UU) (h _ (zab)),Bd.str (U:=UU) (h _ (zaa _ (zaa _ (zaa _ (zab)))))⟩
theorem bd_eCond{x:DCond}(h:BdDV (dA .eCond x)):x.L.S.size≤9223372036854775807∧x.L.V.S.size≤9223372036854775807∧x.R.S.size≤9223372036854775807∧x.R.V.S.size≤9223372036854775807:=⟨Bd.str (U:=UU) (h _ (zaa _ (zaa _ (zab)))),Bd.str (U:=UU) (h _ (zaa _ (zaa _ (zaa _ (zaa _ (zaa _ (zab))))))),Bd.str (U:=UU) (h _ (zaa _ (zaa _ (zaa _ (zaa _ (zaa _ (zaa _ (zaa _ (zab))))))))),Bd.str (U:=UU) (h _ (zaa _ (zaa _ (zaa _ (zaa _ (zaa _ (zaa _ (zaa _ (zaa _ (zaa _ (zaa _ (zab))))))))))))⟩
theorem bd_lCond{x:DCond}(h:BdDV (dA .lCond x)):x.L.S.size≤9223372036854775807∧x.L.V.S.size≤9223372036854775807∧x.R.S.size≤9223372036854775807∧x.R.V.S.size≤9223372036854775807:=⟨Bd.str (U:=UU) (h _ (zaa _ (zaa _ (zab)))),Bd.str (U:=UU) (h _ (zaa _ (zaa _ (zaa _ (zaa _ (zaa _ (zab))))))),Bd.str (U:=UU) (h _ (zaa _ (zaa _ (zaa _ (zaa _ (zaa _ (zaa _ (zaa _ (zab))))))))),Bd.str (U:=UU) (h _ (zaa _ (zaa _ (zaa _ (zaa _ (zaa _ (zaa _ (zaa _ (zaa _ (zaa _ (zaa _ (zab))))))))))))⟩
theorem bd_eExpr{x:DExpr}(h:BdDV (dA .eExpr x)):x.Op.size≤9223372036854775807∧x.L.S.size≤9223372036854775807∧x.L.V.S.size≤9223372036854775807∧x.R.S.size≤9223372036854775807∧x.R.V.S.size≤9223372036854775807:=⟨Bd.str (U:=UU) (h _ (zab)),Bd.str (U:=UU) (h _ (zaa _ (zaa _ (zab)))),Bd.str (U:=UU) (h _ (zaa _ (zaa _ (zaa _ (zaa _ (zaa _ (zab))))))),Bd.str (U:=UU) (h _ (zaa _ (zaa _ (zaa _ (zaa _ (zaa _ (zaa _ (zaa _ (zab))))))))),Bd.str (U:=UU) (h _ (zaa _ (zaa _ (zaa _ (zaa _ (zaa _ (zaa _ (zaa _ (zaa _ (zaa _ (zaa _ (zab))))))))))))⟩
theorem bd_lExpr{x:DExpr}(h:BdDV (dA .lExpr x)):x.Op.size≤9223372036854775807∧x.L.S.size≤9223372036854775807∧x.L.V.S.size≤9223372036854775807∧x.R.S.size≤9223372036854775807∧x.R.V.S.size≤9223372036854775807:=⟨Bd.str (U:=UU) (h _ (zab)),Bd.str (U:=UU) (h _ (zaa _ (zaa _ (zab)))),Bd.str (U:=UU) (h _ (zaa _ (zaa _ (zaa _ (zaa _ (zaa _ (zab))))))),Bd.str (U:=UU) (h _ (zaa _ (zaa _ (zaa _ (zaa _ (zaa _ (zaa _ (zaa _ (zab))))))))),Bd.str (U:=UU) (h _ (zaa _ (zaa _ (zaa _ (zaa _ (zaa _ (zaa _ (zaa _ (zaa _ (zaa _ (zaa _ (zab))))))))))))⟩
theorem bd_eAct{x:DAct}(h:BdDV (dA .eAct x)):x.Name.size≤9223372036854775807∧x.Args.length≤9223372036854775807∧x.Undo.size≤9223372036854775807:=⟨Bd.str (U:=UU) (h _ (zaa _ (zab))),Bd.len (U:=UU) (h _ (zaa _ (zaa _ (zab)))),Bd.str (U:=UU) (h _ (zaa _ (zaa _ (zaa _ (zaa _ (zab))))))⟩
theorem bd_lAct{x:DAct}(h:BdDV (dA .lAct x)):x.Name.size≤9223372036854775807∧x.Args.length≤9223372036854775807∧x.Undo.size≤9223372036854775807:=⟨Bd.str (U:=UU) (h _ (zaa _ (zab))),Bd.len (U:=UU) (h _ (zaa _ (zaa _ (zab)))),Bd.str (U:=UU) (h _ (zaa _ (zaa _ (zaa _ (zaa _ (zab))))))⟩
theorem bd_eRule{x:DRule}(h:BdDV (dA .eRule x)):x.Name.size≤9223372036854775807∧x.Pats.length≤9223372036854775807∧x.Conds.length≤9223372036854775807∧x.Acts.length≤9223372036854775807:=⟨Bd.str (U:=UU) (h _ (zab)),Bd.len (U:=UU) (h _ (zaa _ (zaa _ (zab)))),Bd.len (U:=UU) (h _ (zaa _ (zaa _ (zaa _ (zab))))),Bd.len (U:=UU) (h _ (zaa _ (zaa _ (zaa _ (zaa _ (zab))))))⟩
theorem bd_lRule{x:DRule}(h:BdDV (dA .lRule x)):x.Name.size≤9223372036854775807∧x.Pats.length≤9223372036854775807∧x.Conds.length≤9223372036854775807∧x.Acts.length≤9223372036854775807:=⟨Bd.str (U:=UU) (h _ (zab)),Bd.len (U:=UU) (h _ (zaa _ (zaa _ (zab)))),Bd.len (U:=UU) (h _ (zaa _ (zaa _ (zaa _ (zab))))),Bd.len (U:=UU) (h _ (zaa _ (zaa _ (zaa _ (zaa _ (zab))))))⟩
theorem bd_eDef{x:DDef}(h:BdDV (dA .eDef x)):x.Name.size≤9223372036854775807∧x.Rules.length≤9223372036854775807:=⟨Bd.str (U:=UU) (h _ (zab)),Bd.len (U:=UU) (h _ (zaa _ (zab)))⟩
theorem bd_lDef{x:DDef}(h:BdDV (dA .lDef x)):x.Name.size≤9223372036854775807∧x.Rules.length≤9223372036854775807:=⟨Bd.str (U:=UU) (h _ (zab)),Bd.len (U:=UU) (h _ (zaa _ (zab)))⟩
theorem bd_eMatch{x:DMatch}(h:BdDV (dA .eMatch x)):x.Ids.length≤9223372036854775807∧x.Binds.length≤9223372036854775807:=⟨Bd.len (U:=UU) (h _ (zaa _ (zab))),Bd.len (U:=UU) (h _ (zaa _ (zaa _ (zab))))⟩
theorem bd_lMatch{x:DMatch}(h:BdDV (dA .lMatch x)):x.Ids.length≤9223372036854775807∧x.Binds.length≤9223372036854775807:=⟨Bd.len (U:=UU) (h _ (zaa _ (zab))),Bd.len (U:=UU) (h _ (zaa _ (zaa _ (zab))))⟩
theorem bd_eTimer{x:DTimer}(h:BdDV (dA .eTimer x)):x.F.Kind.size≤9223372036854775807∧x.F.Fields.length≤9223372036854775807:=⟨Bd.str (U:=UU) (h _ (zaa _ (zab))),Bd.len (U:=UU) (h _ (zaa _ (zaa _ (zab))))⟩
theorem bd_lTimer{x:DTimer}(h:BdDV (dA .lTimer x)):x.F.Kind.size≤9223372036854775807∧x.F.Fields.length≤9223372036854775807:=⟨Bd.str (U:=UU) (h _ (zaa _ (zab))),Bd.len (U:=UU) (h _ (zaa _ (zaa _ (zab))))⟩
theorem bd_eTask{x:DTask}(h:BdDV (dA .eTask x)):x.F.Kind.size≤9223372036854775807∧x.F.Fields.length≤9223372036854775807∧x.Undo.size≤9223372036854775807∧x.V.S.size≤9223372036854775807:=⟨Bd.str (U:=UU) (h _ (zab)),Bd.len (U:=UU) (h _ (zaa _ (zab))),Bd.str (U:=UU) (h _ (zaa _ (zaa _ (zab)))),Bd.str (U:=UU) (h _ (zaa _ (zaa _ (zaa _ (zaa _ (zaa _ (zaa _ (zaa _ (zaa _ (zab))))))))))⟩
theorem bd_lTask{x:DTask}(h:BdDV (dA .lTask x)):x.F.Kind.size≤9223372036854775807∧x.F.Fields.length≤9223372036854775807∧x.Undo.size≤9223372036854775807∧x.V.S.size≤9223372036854775807:=⟨Bd.str (U:=UU) (h _ (zab)),Bd.len (U:=UU) (h _ (zaa _ (zab))),Bd.str (U:=UU) (h _ (zaa _ (zaa _ (zab)))),Bd.str (U:=UU) (h _ (zaa _ (zaa _ (zaa _ (zaa _ (zaa _ (zaa _ (zaa _ (zaa _ (zab))))))))))⟩
theorem bd_eUndo{x:DUndo}(h:BdDV (dA .eUndo x)):x.Key.size≤9223372036854775807∧x.F.Kind.size≤9223372036854775807∧x.F.Fields.length≤9223372036854775807:=⟨Bd.str (U:=UU) (h _ (zab)),Bd.str (U:=UU) (h _ (zaa _ (zab))),Bd.len (U:=UU) (h _ (zaa _ (zaa _ (zab))))⟩
theorem bd_lUndo{x:DUndo}(h:BdDV (dA .lUndo x)):x.Key.size≤9223372036854775807∧x.F.Kind.size≤9223372036854775807∧x.F.Fields.length≤9223372036854775807:=⟨Bd.str (U:=UU) (h _ (zab)),Bd.str (U:=UU) (h _ (zaa _ (zab))),Bd.len (U:=UU) (h _ (zaa _ (zaa _ (zab))))⟩
theorem bd_eInst{x:DInst}(h:BdDV (dA .eInst x)):x.S.Items.length≤9223372036854775807∧x.Fired.length≤9223372036854775807∧x.Tasks.length≤9223372036854775807∧x.Timers.length≤9223372036854775807∧x.Undos.length≤9223372036854775807:=⟨Bd.len (U:=UU) (h _ (zab)),Bd.len (U:=UU) (h _ (zaa _ (zaa _ (zab)))),Bd.len (U:=UU) (h _ (zaa _ (zaa _ (zaa _ (zab))))),Bd.len (U:=UU) (h _ (zaa _ (zaa _ (zaa _ (zaa _ (zab)))))),Bd.len (U:=UU) (h _ (zaa _ (zaa _ (zaa _ (zaa _ (zaa _ (zab)))))))⟩
theorem bdX_eInst{x:DInst}(h:BdDV (dX .eInst x)):x.S.Items.length≤9223372036854775807∧x.Fired.length≤9223372036854775807∧x.Tasks.length≤9223372036854775807∧x.Timers.length≤9223372036854775807∧x.Undos.length≤9223372036854775807:=⟨Bd.len (U:=UU) (h _ (zab)),Bd.len (U:=UU) (h _ (zaa _ (zaa _ (zab)))),Bd.len (U:=UU) (h _ (zaa _ (zaa _ (zaa _ (zab))))),Bd.len (U:=UU) (h _ (zaa _ (zaa _ (zaa _ (zaa _ (zab)))))),Bd.len (U:=UU) (h _ (zaa _ (zaa _ (zaa _ (zaa _ (zaa _ (zab)))))))⟩
theorem bd_lInst{x:DInst}(h:BdDV (dA .lInst x)):x.S.Items.length≤9223372036854775807∧x.Fired.length≤9223372036854775807∧x.Tasks.length≤9223372036854775807∧x.Timers.length≤9223372036854775807∧x.Undos.length≤9223372036854775807:=⟨Bd.len (U:=UU) (h _ (zab)),Bd.len (U:=UU) (h _ (zaa _ (zaa _ (zab)))),Bd.len (U:=UU) (h _ (zaa _ (zaa _ (zaa _ (zab))))),Bd.len (U:=UU) (h _ (zaa _ (zaa _ (zaa _ (zaa _ (zab)))))),Bd.len (U:=UU) (h _ (zaa _ (zaa _ (zaa _ (zaa _ (zaa _ (zab)))))))⟩
def rM1{α:Type}(a:List α):Int×Unit→Nat:=fun y=>a.length-y.1.toNat
def rM2{α β:Type}(a:List α):β×Int×Unit→Nat:=fun y=>a.length-y.2.1.toNat
def szI{α:Type}(f:α→Nat)(a:List α)(S:Nat)(left:Int):Int×Int×Unit→Prop:=fun y=>0≤y.1∧0≤y.2.1∧y.2.1≤a.length∧szr y.1 ((a.drop y.2.1.toNat).map f).sum=szr left S
def szV{α:Type}(f:α→Nat)(z:α)(a:List α)(S:Nat)(left:Int):Prop:=
 bif decide (IntKind.wrap .i64 (left-(a.length:Int))<0) then Li (-1) (szr left S)
 else szI f a S left (IntKind.wrap .i64 (left-(a.length:Int)),0,())∧∀y:Int×Int×PUnit,szI f a S left y→
  bif decide (y.2.1<(a.length:Int)) then 0≤y.2.1∧y.2.1.toNat<a.length∧0≤y.1∧
   bif decide (szr y.1 (f (a.getD y.2.1.toNat z))<0) then Li (-1) (szr left S)
   else szI f a S left (szr y.1 (f (a.getD y.2.1.toNat z)),IntKind.wrap .i64 (y.2.1+1),())∧rM2 a (szr y.1 (f (a.getD y.2.1.toNat z)),IntKind.wrap .i64 (y.2.1+1),())<rM2 a y
  else Li y.1 (szr left S)
theorem szV_ok{α:Type}{f:α→Nat}{z:α}{a:List α}{S:Nat}{left:Int}(hS:S=a.length+(a.map f).sum)(hp0:0≤left)(hl: -9223372036854775808≤left∧left≤9223372036854775807)(hla:a.length≤9223372036854775807):szV f z a S left:=by
 subst hS
 unfold szV
 rw[wrap_i64 (by omega) (by omega)]
 refine if_cond (fun h=>Lf_i ?_) (fun h=>⟨?_,?_⟩)
 ·simp[szr] at*;omega
 ·simp at h
  have h':0≤left-a.length:=by omega
  exact⟨h',by show(0:Int)≤0;omega,by show(0:Int)≤a.length;omega,szr_sub h'⟩
 rintro⟨lf,i,⟨⟩⟩ ⟨h0,h1,h2,hR⟩
 refine if_cond (fun hc=> ?_) (fun hc=> ?_)
 ·have hc:i<a.length:=by simpa using hc
  simp only at h0 h1 h2 hR⊢
  rw[drop_step a z h1 hc,zbt,zdc] at hR
  rw[wrap_i64 (by omega) (by omega)]
  generalize List.getD a i.toNat z=x at*
  refine⟨by omega,by omega,by omega,if_cond (fun h=>Lf_i ?_) (fun h=>⟨⟨?_,by show(0:Int)≤i+1;omega,by show i+1≤a.length;omega,?_⟩,?_⟩)⟩
  ·rw[←hR];exact(szr_bad (of_decide_eq_true h)).symm
  ·simp at h;exact h
  ·show szr (szr lf (f x)) _=_
   rw[←hR];simp at h;exact szr_szr h
  ·simp only[rM2];omega
 ·have hc:a.length≤i:=by simpa using hc
  simp only at h0 h1 h2 hR⊢
  rw[drop_end a hc] at hR
  apply Lf_i;rw[←hR];simp[szr,h0]
def toI{α:Type}(z:α)(a:List α):List α×Int×Unit→Prop:=fun y=>0≤y.2.1∧y.2.1≤a.length∧y.1=a.take y.2.1.toNat++List.replicate (a.length-y.2.1.toNat) z
def toV{α:Type}(f:α→Nat)(z:α)(a:List α)(L:List α→Prop):Prop:=
 0≤(a.length:Int)∧(a.length:Int)=(a.length:Int)∧(a.length:Int)≤4294967296∧toI z a (List.replicate (a.length:Int).toNat z,0,())∧
  ∀y:List α×Int×PUnit,toI z a y→bif decide (y.2.1<(a.length:Int)) then 0≤y.2.1∧y.2.1.toNat<a.length∧f (a.getD y.2.1.toNat z)≤4294967296∧0≤y.2.1∧y.2.1.toNat<y.1.length∧y.2.1.toNat<y.1.length∧
   toI z a (y.1.set y.2.1.toNat (a.getD y.2.1.toNat z),IntKind.wrap .i64 (y.2.1+1),())∧rM2 a (y.1.set y.2.1.toNat (a.getD y.2.1.toNat z),IntKind.wrap .i64 (y.2.1+1),())<rM2 a y
  else L y.1
theorem toV_ok{α:Type}{f:α→Nat}{z:α}{a:List α}{L:List α→Prop}(hp0:a.length+(a.map f).sum≤4294967296)(hL:L a):toV f z a L:=by
 refine⟨by omega,rfl,by omega,⟨by show(0:Int)≤0;omega,by show(0:Int)≤a.length;omega,by simp⟩,?_⟩
 rintro⟨out,i,⟨⟩⟩ ⟨h1,h2,h3⟩
 simp only at h1 h2 h3
 subst h3
 refine if_cond (fun hc=> ?_) (fun hc=> ?_)
 ·have hc:i<a.length:=by simpa using hc
  simp only
  rw[wrap_i64 (by omega) (by omega),set_fill a z h1 hc]
  exact⟨h1,by omega,zde (sum_getD_le f a z h1 hc) (by omega),h1,by simp;omega,by simp;omega,⟨by show(0:Int)≤i+1;omega,by show i+1≤a.length;omega,rfl⟩,by simp only[rM2];omega⟩
 ·have hc:a.length≤i:=by simpa using hc
  have e:i.toNat=a.length:=by omega
  simp only
  rw[e];simpa using hL
def eqI{α:Type}(a b:List α):Int×Unit→Prop:=fun y=>0≤y.1∧y.1≤a.length∧a.length=b.length∧(a.drop y.1.toNat=b.drop y.1.toNat↔a=b)
noncomputable def eqV{α:Type}[DecidableEq α](z:α)(a b:List α):Prop:=
 bif (a.length:Int) !=(b.length:Int) then Lb false (decide (a=b))
 else eqI a b (0,())∧∀y:Int×PUnit,eqI a b y→bif decide (y.1<(a.length:Int)) then 0≤y.1∧y.1.toNat<a.length∧0≤y.1∧y.1.toNat<b.length∧
   bif !decide (a.getD y.1.toNat z=b.getD y.1.toNat z) then Lb false (decide (a=b))
   else eqI a b (IntKind.wrap .i64 (y.1+1),())∧rM1 a (IntKind.wrap .i64 (y.1+1),())<rM1 a y
  else Lb true (decide (a=b))
theorem eqV_ok{α:Type}[DecidableEq α]{z:α}{a b:List α}(hl:a.length≤9223372036854775807):eqV z a b:=by
 unfold eqV
 refine if_cond (fun h=>Lf_f ?_) (fun h=>⟨?_,?_⟩)
 ·rintro rfl;simp at h
 ·have h:(a.length:Int)=b.length:=by simpa using h
  exact⟨by show(0:Int)≤0;omega,by show(0:Int)≤a.length;omega,by omega,by simp⟩
 rintro⟨i,⟨⟩⟩ ⟨h1,h2,h3,hR⟩
 simp only at h1 h2 h3 hR
 refine if_cond (fun hc=> ?_) (fun hc=> ?_)
 ·have hc:i<a.length:=by simpa using hc
  rw[drop_step a z h1 hc,drop_step b z h1 (by omega)] at hR
  simp only
  rw[wrap_i64 (by omega) (by omega)]
  refine⟨by omega,by omega,by omega,by omega,if_cond (fun h=>Lf_f ?_) (fun h=>⟨⟨by show(0:Int)≤i+1;omega,by show i+1≤a.length;omega,h3,?_⟩,?_⟩)⟩
  ·rw[←hR];simp at h;simp[h]
  ·show a.drop (i+1).toNat=b.drop (i+1).toNat↔a=b
   rw[←hR];simp at h;simp[h]
  ·simp only[rM1];omega
 ·have hc:a.length≤i:=by simpa using hc
  rw[drop_end a hc,drop_end b (by omega)] at hR
  exact Lf_t (hR.1 rfl)
def smallB(b:Int):Bool:=decide (97≤b∧b≤122)
def wordB(b:Int):Bool:=smallB b||decide (48≤b∧b≤57)||decide (b=95)
def wordS(s:ByteArray):Bool:=(bs s).all (byteP wordB)
def nameOk(s:ByteArray):Bool:=decide (1≤s.size∧s.size≤12)&&smallB (List.getD (bs s) 0 0).toNat&&wordS s
def valOk(v:DVal):Bool:=bif decide (v.K=1) then decide (-1000000000≤v.N∧v.N≤1000000000)&&decide (v.S=noBytes) else bif decide (v.K=2) then decide (v.N=0)&&decide (v.S.size≤20)&&wordS v.S else false
def factOk(f:DFact):Bool:=nameOk f.Kind&&decide (f.Fields.length≤5)&&f.Fields.all valOk
def Zk104:Con UU where
 α:=Int×Int×Int
 md:=[.ro,.ro,.ro]
 of:=oC oI (oC oI (o1 oI))
 ds:=fun x=>[dI x.1,dI x.2.1,dI x.2.2]
 pre:=fun _=>[]
 res:=fun(n,least,most)=>⟨[.one (.lit (.bool (decide (least≤n∧n≤most))))],true,[]⟩
 law:=lC lI (lC lI (l1 lI))
def Za104:Zk104.α→Nat→Option (Ann UU):=fun(n,least,most)=>annL []
def Zu104:List (FuncId×Con UU):=[]
theorem Zv104(n:Int)(least:Int)(most:Int):goal EE Zu104 Go.Proofs.Tryz.f104 Zk104 Za104 (n,least,most)=(bif decide (n≥least) then Lb (decide (n≤most)) (decide (least≤n∧n≤most)) else Lb false (decide (least≤n∧n≤most))):=by kernel_rfl
theorem Zo104:Holds EE (104,Zk104):=by
 refine holds_of EE_ok Go.Proofs.Tryz.func104 Zk104 (by kernel_rfl) Zu104 all_nil Za104 (fun x hp hb=> ?_)
 obtain⟨n,least,most⟩:=x
 have hl_n:=bdI (n:=n) (hb _ m0)
 have hl_least:=bdI (n:=least) (hb _ m1)
 have hl_most:=bdI (n:=most) (hb _ m2)
 clear hp hb
 rw[Zv104 n least most]
 refine if_cond (fun h=>Lf_b ?_) (fun h=>Lf_b ?_)<;>grind
def Zh104:HH:=⟨_,Zo104⟩
def Zk81:Con UU where
 α:=Int×Int×Int
 md:=[.ro,.ro,.ro]
 of:=oC oI (oC oI (o1 oI))
 ds:=fun x=>[dI x.1,dI x.2.1,dI x.2.2]
 pre:=fun _=>[]
 res:=fun(x,least,most)=>⟨[.one (.lit (.bool (decide (least≤x∧x≤most))))],true,[]⟩
 law:=lC lI (lC lI (l1 lI))
def Za81:Zk81.α→Nat→Option (Ann UU):=fun(x,least,most)=>annL []
def Zu81:List (FuncId×Con UU):=[]
theorem Zv81(x:Int)(least:Int)(most:Int):goal EE Zu81 Go.Proofs.Tryz.f81 Zk81 Za81 (x,least,most)=(bif decide (x≥least) then Lb (decide (x≤most)) (decide (least≤x∧x≤most)) else Lb false (decide (least≤x∧x≤most))):=by kernel_rfl
theorem Zo81:Holds EE (81,Zk81):=by
 refine holds_of EE_ok Go.Proofs.Tryz.func81 Zk81 (by kernel_rfl) Zu81 all_nil Za81 (fun x hp hb=> ?_)
 obtain⟨x,least,most⟩:=x
 have hl_x:=bdI (n:=x) (hb _ m0)
 have hl_least:=bdI (n:=least) (hb _ m1)
 have hl_most:=bdI (n:=most) (hb _ m2)
 clear hp hb
 rw[Zv81 x least most]
 refine if_cond (fun h=>Lf_b ?_) (fun h=>Lf_b ?_)<;>grind
def Zh81:HH:=⟨_,Zo81⟩
def Zk193:Con UU where
 α:=Int
 md:=[.ro]
 of:=o1 oY
 ds:=fun x=>[dY x]
 pre:=fun _=>[]
 res:=fun b=>⟨[.one (.lit (.bool (smallB b)))],true,[]⟩
 law:=l1 lY
def Za193:Zk193.α→Nat→Option (Ann UU):=fun b=>annL []
def Zu193:List (FuncId×Con UU):=[]
theorem Zv193(b:Int):goal EE Zu193 Go.Proofs.Tryz.f193 Zk193 Za193 b=(bif decide (b≥(97:Int)) then Lb (decide (b≤(122:Int))) (smallB b) else Lb false (smallB b)):=by kernel_rfl
theorem Zo193:Holds EE (193,Zk193):=by
 refine holds_of EE_ok Go.Proofs.Tryz.func193 Zk193 (by kernel_rfl) Zu193 all_nil Za193 (fun(b:Int) hp hb=> ?_)
 skip
 clear hp hb
 rw[Zv193 b]
 refine if_cond (fun h=>Lf_b ?_) (fun h=>Lf_b ?_)<;>grind [smallB]
def Zh193:HH:=⟨_,Zo193⟩
def Zk253:Con UU where
 α:=Int
 md:=[.ro]
 of:=o1 oY
 ds:=fun x=>[dY x]
 pre:=fun _=>[]
 res:=fun b=>⟨[.one (.lit (.bool (decide (48≤b∧b≤57))))],true,[]⟩
 law:=l1 lY
def Za253:Zk253.α→Nat→Option (Ann UU):=fun b=>annL []
def Zu253:List (FuncId×Con UU):=[]
theorem Zv253(b:Int):goal EE Zu253 Go.Proofs.Tryz.f253 Zk253 Za253 b=(bif decide (b≥(48:Int)) then Lb (decide (b≤(57:Int))) (decide ((48:Int)≤b∧b≤(57:Int))) else Lb false (decide ((48:Int)≤b∧b≤(57:Int)))):=by kernel_rfl
theorem Zo253:Holds EE (253,Zk253):=by
 refine holds_of EE_ok Go.Proofs.Tryz.func253 Zk253 (by kernel_rfl) Zu253 all_nil Za253 (fun(b:Int) hp hb=> ?_)
 skip
 clear hp hb
 rw[Zv253 b]
 refine if_cond (fun h=>Lf_b ?_) (fun h=>Lf_b ?_)<;>grind
def Zh253:HH:=⟨_,Zo253⟩
def Zk231:Con UU where
 α:=Int
 md:=[.ro]
 of:=o1 oY
 ds:=fun x=>[dY x]
 pre:=fun _=>[]
 res:=fun b=>⟨[.one (.lit (.bool (wordB b)))],true,[]⟩
 law:=l1 lY
def Za231:Zk231.α→Nat→Option (Ann UU):=fun b=>annL []
def Zu231:=us [Zh193,Zh253]
theorem Zv231(b:Int):goal EE Zu231 Go.Proofs.Tryz.f231 Zk231 Za231 b=(bif smallB b then Lb true (wordB b) else bif decide ((48:Int)≤b∧b≤(57:Int)) then Lb true (wordB b) else Lb (b==(95:Int)) (wordB b)):=by kernel_rfl
theorem Zo231:Holds EE (231,Zk231):=by
 refine holds_of EE_ok Go.Proofs.Tryz.func231 Zk231 (by kernel_rfl) Zu231 (us_ok _) Za231 (fun(b:Int) hp hb=> ?_)
 skip
 clear hp hb
 rw[Zv231 b]
 refine if_cond (fun h=>Lf_b ?_) (fun h=> ?_)
 ·grind [wordB]
 refine if_cond (fun h=>Lf_b ?_) (fun h=>Lf_b ?_)<;>grind [wordB]
def Zh231:HH:=⟨_,Zo231⟩
def Zk191:Con UU where
 α:=Int
 md:=[.ro]
 of:=o1 oY
 ds:=fun x=>[dY x]
 pre:=fun c=>[0≤c∧c≤255]
 res:=fun c=>⟨[.one (.lit (.bool (wordB c)))],true,[]⟩
 law:=l1 lY
def Za191:Zk191.α→Nat→Option (Ann UU):=fun c=>annL []
def Zu191:=us [Zh81]
theorem Zv191(c:Int):goal EE Zu191 Go.Proofs.Tryz.f191 Zk191 Za191 c=(bif decide ((97:Int)≤IntKind.wrap IntKind.i64 c∧IntKind.wrap IntKind.i64 c≤(122:Int)) then Lb true (wordB c) else bif decide ((48:Int)≤IntKind.wrap IntKind.i64 c∧IntKind.wrap IntKind.i64 c≤(57:Int)) then Lb true (wordB c) else Lb (c==(95:Int)) (wordB c)):=by kernel_rfl
theorem Zo191:Holds EE (191,Zk191):=by
 refine holds_of EE_ok Go.Proofs.Tryz.func191 Zk191 (by kernel_rfl) Zu191 (us_ok _) Za191 (fun(c:Int) hp hb=> ?_)
 have hp0:0≤c∧c≤255:=hp _ m0
 clear hp hb
 rw[Zv191 c]
 rw[wrap_i64 (by omega) (by omega)]
 refine if_cond (fun h=>Lf_b ?_) (fun h=> ?_)
 ·grind [wordB,smallB]
 refine if_cond (fun h=>Lf_b ?_) (fun h=>Lf_b ?_)<;>grind [wordB,smallB]
def Zh191:HH:=⟨_,Zo191⟩
def Zk194:Con UU where
 α:=ByteArray×Int
 md:=[.ro,.ro]
 of:=oC oS (o1 oI)
 ds:=fun x=>[dS x.1,dI x.2]
 pre:=fun _=>[]
 res:=fun(s,most)=>⟨[.one (.lit (.bool (decide (s.size≤most)&&wordS s)))],true,[]⟩
 law:=lC lS (l1 lI)
def Zi194_4(s:ByteArray)(most:Int):Int×Unit→Prop:=fun(i,_)=>0≤i∧i≤s.size∧s.size≤most∧((bs s).drop i.toNat).all (byteP wordB)=wordS s
def Zm194_4(s:ByteArray)(most:Int):Int×Unit→Nat:=fun(i,_)=>s.size-i.toNat
def Za194:Zk194.α→Nat→Option (Ann UU):=fun(s,most)=>annL [(4,annOf [.slot 5 (5,1024) (.lit (.int .i64))] (fun _=>Zi194_4 s most) (Zm194_4 s most))]
def Zu194:=us [Zh231]
theorem Zv194(s:ByteArray)(most:Int):goal EE Zu194 Go.Proofs.Tryz.f194 Zk194 Za194 (s,most)=(bif decide ((↑(ByteArray.size s):Int)>most) then Lb false (decide ((↑(ByteArray.size s):Int)≤most)&&wordS s) else Zi194_4 s most ((0:Int),())∧∀(y:Int×PUnit),Zi194_4 s most y→bif decide (y.1<(↑(ByteArray.size s):Int)) then(0:Int)≤y.1∧y.1.toNat<ByteArray.size s∧bif !wordB (↑(UInt8.toNat (List.getD s.data.toList y.1.toNat (0:UInt8))):Int) then Lb false (decide ((↑(ByteArray.size s):Int)≤most)&&wordS s) else Zi194_4 s most (IntKind.wrap IntKind.i64 (y.1+(1:Int)),())∧Zm194_4 s most (IntKind.wrap IntKind.i64 (y.1+(1:Int)),())<Zm194_4 s most y else Lb true (decide ((↑(ByteArray.size s):Int)≤most)&&wordS s)):=by kernel_rfl
theorem Zo194:Holds EE (194,Zk194):=by
 refine holds_of EE_ok Go.Proofs.Tryz.func194 Zk194 (by kernel_rfl) Zu194 (us_ok _) Za194 (fun x hp hb=> ?_)
 obtain⟨s,most⟩:=x
 have hl_s:=bdS (s:=s) (hb _ m0)
 have hl_most:=bdI (n:=most) (hb _ m1)
 clear hp hb
 rw[Zv194 s most]
 refine if_cond (fun h=>Lf_ff ?_) (fun h=> ?_)
 ·have h:=of_decide_eq_true h;rw[decide_eq_false (by omega)];rfl
 have h0:=of_decide_eq_false h
 refine⟨⟨by omega,by omega,by omega,rfl⟩,?_⟩
 rintro⟨i,⟨⟩⟩ ⟨h1,h2,h3,hR⟩
 have hl:=bs_len s
 simp only[bs_eq]
 refine if_cond (fun hc=> ?_) (fun hc=> ?_)
 ·have hc:=of_decide_eq_true hc
  rw[all_step _ _ 0 h1 (by omega)] at hR
  rw[wrap_i64 (by omega) (by omega)]
  refine⟨by omega,by omega,if_cond (fun h=>Lf_ff ?_) (fun h=>⟨⟨by omega,by omega,by omega,?_⟩,?_⟩)⟩
  ·rw[←hR];simp only[byteP];simp at h;simp[h]
  ·rw[←hR];simp only[byteP];simp at h;simp[h]
  ·simp only[Zm194_4];omega
 ·have hc:=of_decide_eq_false hc
  rw[drop_end _ (by omega)] at hR
  exact Lf_tt (by rw[←hR,decide_eq_true h3];rfl)
def Zh194:HH:=⟨_,Zo194⟩
def Zk134:Con UU where
 α:=ByteArray
 md:=[.ro]
 of:=o1 oS
 ds:=fun x=>[dS x]
 pre:=fun _=>[]
 res:=fun s=>⟨[.one (.lit (.bool (nameOk s)))],true,[]⟩
 law:=l1 lS
def Za134:Zk134.α→Nat→Option (Ann UU):=fun s=>annL []
def Zu134:=us [Zh193,Zh194]
theorem Zv134(s:ByteArray):goal EE Zu134 Go.Proofs.Tryz.f134 Zk134 Za134 s=(bif decide ((↑(ByteArray.size s):Int)>(0:Int)) then(0:Int)≤(0:Int)∧Int.toNat (0:Int)<ByteArray.size s∧bif smallB (↑(UInt8.toNat (List.getD s.data.toList (Int.toNat (0:Int)) (0:UInt8))):Int) then Lb (decide ((↑(ByteArray.size s):Int)≤(12:Int))&&wordS s) (nameOk s) else Lb false (nameOk s) else Lb false (nameOk s)):=by kernel_rfl
theorem Zo134:Holds EE (134,Zk134):=by
 refine holds_of EE_ok Go.Proofs.Tryz.func134 Zk134 (by kernel_rfl) Zu134 (us_ok _) Za134 (fun(s:ByteArray) hp hb=> ?_)
 have hl_s:=bdS (s:=s) (hb _ m0)
 clear hp hb
 rw[Zv134 s]
 have hl:=bs_len s
 simp only[bs_eq]
 refine if_cond (fun h=> ?_) (fun h=>Lf_ff ?_)
 ·have h:=of_decide_eq_true h
  refine⟨by omega,by omega,if_cond (fun h'=>Lf_b ?_) (fun h'=>Lf_ff ?_)⟩
  ·have h':smallB ((List.getD (bs s) 0 0).toNat:Int)=true:=h'
   simp only[nameOk,h']
   have e:decide (1≤s.size∧s.size≤12)=decide ((s.size:Int)≤12):=by rw[decide_eq_decide];omega
   rw[e];simp
  ·have h':smallB ((List.getD (bs s) 0 0).toNat:Int)=false:=h'
   simp only[nameOk,h'];grind
 ·have h:=of_decide_eq_false h
  simp only[nameOk];rw[decide_eq_false (by omega)];rfl
def Zh134:HH:=⟨_,Zo134⟩
def Zk130:Con UU where
 α:=ByteArray
 md:=[.ro]
 of:=o1 oS
 ds:=fun x=>[dS x]
 pre:=fun _=>[]
 res:=fun s=>⟨[.one (.lit (.bool (nameOk s)))],true,[]⟩
 law:=l1 lS
def Zi130_2(s:ByteArray):Int×Unit→Prop:=fun(i,_)=>0≤i∧i≤s.size∧((bs s).drop i.toNat).all (byteP wordB)=wordS s∧(0<i→smallB (List.getD (bs s) 0 0).toNat=true)
def Zm130_2(s:ByteArray):Int×Unit→Nat:=fun(i,_)=>s.size-i.toNat
def Za130:Zk130.α→Nat→Option (Ann UU):=fun s=>annL [(2,annOf [.slot 3 (3,1024) (.lit (.int .i64))] (fun _=>Zi130_2 s) (Zm130_2 s))]
def Zu130:=us [Zh191,Zh81]
theorem Zv130(s:ByteArray):goal EE Zu130 Go.Proofs.Tryz.f130 Zk130 Za130 s=(Zi130_2 s ((0:Int),())∧
 ∀(y:Int×PUnit),
  let x0:Int:=(↑(UInt8.toNat (List.getD s.data.toList (Int.toNat y.1) (0:UInt8))):Int);
  Zi130_2 s y→bif decide (y.1<(↑(ByteArray.size s):Int)) then(0:Int)≤y.1∧Int.toNat y.1<ByteArray.size s∧((0:Int)≤x0∧x0≤(255:Int))∧bif !wordB x0 then Lf [DV.one (Cell.lit (Value.bool false))] [DV.one (Cell.lit (Value.bool (nameOk s)))] else bif y.1==(0:Int) then(0:Int)≤y.1∧Int.toNat y.1<ByteArray.size s∧bif !decide ((97:Int)≤IntKind.wrap IntKind.i64 x0∧IntKind.wrap IntKind.i64 x0≤(122:Int)) then Lf [DV.one (Cell.lit (Value.bool false))] [DV.one (Cell.lit (Value.bool (nameOk s)))] else Zi130_2 s (IntKind.wrap IntKind.i64 (y.1+(1:Int)),PUnit.unit)∧Zm130_2 s (IntKind.wrap IntKind.i64 (y.1+(1:Int)),PUnit.unit)<Zm130_2 s y else Zi130_2 s (IntKind.wrap IntKind.i64 (y.1+(1:Int)),PUnit.unit)∧Zm130_2 s (IntKind.wrap IntKind.i64 (y.1+(1:Int)),PUnit.unit)<Zm130_2 s y else Lf [DV.one (Cell.lit (Value.bool (decide ((1:Int)≤(↑(ByteArray.size s):Int)∧(↑(ByteArray.size s):Int)≤(12:Int)))))] [DV.one (Cell.lit (Value.bool (nameOk s)))]):=by kernel_rfl
theorem Zo130:Holds EE (130,Zk130):=by
 refine holds_of EE_ok Go.Proofs.Tryz.func130 Zk130 (by kernel_rfl) Zu130 (us_ok _) Za130 (fun(s:ByteArray) hp hb=> ?_)
 have hl_s:=bdS (s:=s) (hb _ m0)
 clear hp hb
 rw[Zv130 s]
 dsimp only
 refine⟨⟨by omega,by omega,rfl,by omega⟩,?_⟩
 rintro⟨i,⟨⟩⟩ ⟨h1,h2,hR,hS⟩
 have hl:=bs_len s
 simp only[bs_eq,u8_i64]
 refine if_cond (fun hc=> ?_) (fun hc=> ?_)
 ·have hc:=of_decide_eq_true hc
  have hb:=(List.getD (bs s) i.toNat 0).toNat_lt
  rw[all_step _ _ 0 h1 (by omega)] at hR
  rw[wrap_i64 (by omega) (by omega)]
  have hN:wordS s=false→nameOk s=false:=fun h=>by simp[nameOk,h]
  refine⟨by omega,by omega,⟨by omega,by omega⟩,if_cond (fun h=>Lf_ff (hN ?_)) (fun h=>if_cond (fun h'=>⟨by omega,by omega,if_cond (fun h''=>Lf_ff ?_) (fun h''=>⟨⟨by omega,by omega,?_,fun _=> ?_⟩,?_⟩)⟩) (fun h'=>⟨⟨by omega,by omega,?_,fun _=>hS ?_⟩,?_⟩))⟩
  ·rw[←hR];simp only[byteP];simp at h;simp[h]
  ·have h':i=0:=by simpa using h'
   subst h'
   have h'':smallB ((List.getD (bs s) 0 0).toNat:Int)=false:=by simp only[smallB];grind
   simp only[nameOk,h''];grind
  ·rw[←hR];simp only[byteP];simp at h;simp[h]
  ·have h':i=0:=by simpa using h'
   subst h'
   simpa[smallB] using h''
  ·simp only[Zm130_2];omega
  ·rw[←hR];simp only[byteP];simp at h;simp[h]
  ·have h':¬i=0:=by simpa using h'
   omega
  ·simp only[Zm130_2];omega
 ·have hc:=of_decide_eq_false hc
  rw[drop_end _ (by omega)] at hR
  refine Lf_b ?_
  simp only[nameOk,←hR]
  by_cases hz:0<i
  ·rw[hS hz];simp only[zes];grind
  ·rw[decide_eq_false (by omega),decide_eq_false (by omega)];rfl
def Zh130:HH:=⟨_,Zo130⟩
def Zk230:Con UU where
 α:=ByteArray
 md:=[.ro]
 of:=o1 oS
 ds:=fun x=>[dS x]
 pre:=fun _=>[]
 res:=fun s=>⟨[.one (.lit (.bool (decide (s.size≤20)&&wordS s)))],true,[]⟩
 law:=l1 lS
def Zi230_2(s:ByteArray):Int×Unit→Prop:=fun(i,_)=>0≤i∧i≤s.size∧((bs s).drop i.toNat).all (byteP wordB)=wordS s
def Zm230_2(s:ByteArray):Int×Unit→Nat:=fun(i,_)=>s.size-i.toNat
def Za230:Zk230.α→Nat→Option (Ann UU):=fun s=>annL [(2,annOf [.slot 3 (3,1024) (.lit (.int .i64))] (fun _=>Zi230_2 s) (Zm230_2 s))]
def Zu230:=us [Zh191]
theorem Zv230(s:ByteArray):goal EE Zu230 Go.Proofs.Tryz.f230 Zk230 Za230 s=(Zi230_2 s ((0:Int),())∧
 ∀(y:Int×PUnit),
  let x0:Int:=(↑(UInt8.toNat (List.getD s.data.toList (Int.toNat y.1) (0:UInt8))):Int);
  Zi230_2 s y→bif decide (y.1<(↑(ByteArray.size s):Int)) then(0:Int)≤y.1∧Int.toNat y.1<ByteArray.size s∧((0:Int)≤x0∧x0≤(255:Int))∧bif !wordB x0 then Lf [DV.one (Cell.lit (Value.bool false))] [DV.one (Cell.lit (Value.bool (decide (ByteArray.size s≤(20:Nat))&&wordS s)))] else Zi230_2 s (IntKind.wrap IntKind.i64 (y.1+(1:Int)),PUnit.unit)∧Zm230_2 s (IntKind.wrap IntKind.i64 (y.1+(1:Int)),PUnit.unit)<Zm230_2 s y else Lf [DV.one (Cell.lit (Value.bool (decide ((↑(ByteArray.size s):Int)≤(20:Int)))))] [DV.one (Cell.lit (Value.bool (decide (ByteArray.size s≤(20:Nat))&&wordS s)))]):=by kernel_rfl
theorem Zo230:Holds EE (230,Zk230):=by
 refine holds_of EE_ok Go.Proofs.Tryz.func230 Zk230 (by kernel_rfl) Zu230 (us_ok _) Za230 (fun(s:ByteArray) hp hb=> ?_)
 have hl_s:=bdS (s:=s) (hb _ m0)
 clear hp hb
 rw[Zv230 s]
 dsimp only
 refine⟨⟨by omega,by omega,rfl⟩,?_⟩
 rintro⟨i,⟨⟩⟩ ⟨h1,h2,hR⟩
 have hl:=bs_len s
 simp only[bs_eq]
 refine if_cond (fun hc=> ?_) (fun hc=> ?_)
 ·have hc:=of_decide_eq_true hc
  have hb:=(List.getD (bs s) i.toNat 0).toNat_lt
  rw[all_step _ _ 0 h1 (by omega)] at hR
  rw[wrap_i64 (by omega) (by omega)]
  refine⟨by omega,by omega,⟨by omega,by omega⟩,if_cond (fun h=>Lf_ff ?_) (fun h=>⟨⟨by omega,by omega,?_⟩,?_⟩)⟩
  ·rw[←hR];simp only[byteP];simp at h;simp[h]
  ·rw[←hR];simp only[byteP];simp at h;simp[h]
  ·simp only[Zm230_2];omega
 ·have hc:=of_decide_eq_false hc
  rw[drop_end _ (by omega)] at hR
  refine Lf_b ?_
  rw[←hR];simp;omega
def Zh230:HH:=⟨_,Zo230⟩
def Zk135:Con UU where
 α:=DVal
 md:=[.ro]
 of:=o1 (oA .eVal)
 ds:=fun x=>[dA .eVal x]
 pre:=fun _=>[]
 res:=fun v=>⟨[.one (.lit (.bool (valOk v)))],true,[]⟩
 law:=l1 (lA .eVal)
def Za135:Zk135.α→Nat→Option (Ann UU):=fun v=>annL []
def Zu135:=us [Zh104,Zh194]
theorem Zv135(v:DVal):goal EE Zu135 Go.Proofs.Tryz.f135 Zk135 Za135 v=(bif v.K==(1:Int) then bif decide ((-1000000000:Int)≤v.N∧v.N≤(1000000000:Int)) then Lb (ByteArray.toList v.S==ByteArray.toList {data:= #[]:ByteArray}) (valOk v) else Lb false (valOk v) else bif v.K==(2:Int) then bif v.N==(0:Int) then Lb (decide ((↑(ByteArray.size v.S):Int)≤(20:Int))&&wordS v.S) (valOk v) else Lb false (valOk v) else Lb false (valOk v)):=by kernel_rfl
theorem Zo135:Holds EE (135,Zk135):=by
 refine holds_of EE_ok Go.Proofs.Tryz.func135 Zk135 (by kernel_rfl) Zu135 (us_ok _) Za135 (fun(v:DVal) hp hb=> ?_)
 have hl_v_S:=bd_eVal (x:=v) (hb _ m0)
 clear hp hb
 rw[Zv135 v]
 have e:(ByteArray.toList (DVal.S v)==ByteArray.toList {data:= #[]})=decide (v.S=noBytes):=toList_beq _ _
 simp only[e,valOk]
 repeat' (refine if_cond (fun h=> ?_) (fun h=> ?_))
 all_goals (refine Lf_b ?_;grind)
def Zh135:HH:=⟨_,Zo135⟩
def Zk192:Con UU where
 α:=DVal
 md:=[.ro]
 of:=o1 (oA .eVal)
 ds:=fun x=>[dA .eVal x]
 pre:=fun _=>[]
 res:=fun v=>⟨[.one (.lit (.bool (valOk v)))],true,[]⟩
 law:=l1 (lA .eVal)
def Za192:Zk192.α→Nat→Option (Ann UU):=fun v=>annL []
def Zu192:=us [Zh81,Zh230]
theorem Zv192(v:DVal):goal EE Zu192 Go.Proofs.Tryz.f192 Zk192 Za192 v=(bif v.K==(1:Int) then bif decide ((-1000000000:Int)≤v.N∧v.N≤(1000000000:Int)) then Lb (ByteArray.toList v.S==ByteArray.toList {data:= #[]:ByteArray}) (valOk v) else Lb false (valOk v) else bif v.K==(2:Int) then bif decide (ByteArray.size v.S≤(20:Nat))&&wordS v.S then Lb (v.N==(0:Int)) (valOk v) else Lb false (valOk v) else Lb false (valOk v)):=by kernel_rfl
theorem Zo192:Holds EE (192,Zk192):=by
 refine holds_of EE_ok Go.Proofs.Tryz.func192 Zk192 (by kernel_rfl) Zu192 (us_ok _) Za192 (fun(v:DVal) hp hb=> ?_)
 have hl_v_S:=bd_eVal (x:=v) (hb _ m0)
 clear hp hb
 rw[Zv192 v]
 have e:(ByteArray.toList (DVal.S v)==ByteArray.toList {data:= #[]})=decide (v.S=noBytes):=toList_beq _ _
 simp only[e,valOk]
 repeat' (refine if_cond (fun h=> ?_) (fun h=> ?_))
 all_goals (refine Lf_b ?_;grind)
def Zh192:HH:=⟨_,Zo192⟩
def Zk131:Con UU where
 α:=(List DVal)
 md:=[.ro]
 of:=o1 (oL .eVal)
 ds:=fun x=>[dL .eVal x]
 pre:=fun _=>[]
 res:=fun l=>⟨[.one (.lit (.bool (decide (l.length≤5)&&l.all valOk)))],true,[]⟩
 law:=l1 (lL .eVal)
def Zi131_2(l:(List DVal)):Int×Unit→Prop:=fun(i,_)=>0≤i∧i≤l.length∧(l.drop i.toNat).all valOk=l.all valOk
def Zm131_2(l:(List DVal)):Int×Unit→Nat:=fun(i,_)=>l.length-i.toNat
def Za131:Zk131.α→Nat→Option (Ann UU):=fun l=>annL [(2,annOf [.slot 3 (3,1024) (.lit (.int .i64))] (fun _=>Zi131_2 l) (Zm131_2 l))]
def Zu131:=us [Zh192]
theorem Zv131(l:(List DVal)):goal EE Zu131 Go.Proofs.Tryz.f131 Zk131 Za131 l=(let x0:Int:=(l.length:Int);
Zi131_2 l ((0:Int),PUnit.unit)∧∀(y:Int×PUnit),Zi131_2 l y→bif decide (y.1<x0) then(0:Int)≤y.1∧Int.toNat y.1<List.length l∧bif !valOk (List.getD l (Int.toNat y.1) zVal) then Lf [DV.one (Cell.lit (Value.bool false))] [DV.one (Cell.lit (Value.bool (decide (List.length l≤(5:Nat))&&List.all l valOk)))] else Zi131_2 l (IntKind.wrap IntKind.i64 (y.1+(1:Int)),PUnit.unit)∧Zm131_2 l (IntKind.wrap IntKind.i64 (y.1+(1:Int)),PUnit.unit)<Zm131_2 l y else Lf [DV.one (Cell.lit (Value.bool (decide (x0≤(5:Int)))))] [DV.one (Cell.lit (Value.bool (decide (List.length l≤(5:Nat))&&List.all l valOk)))]):=by kernel_rfl
theorem Zo131:Holds EE (131,Zk131):=by
 refine holds_of EE_ok Go.Proofs.Tryz.func131 Zk131 (by kernel_rfl) Zu131 (us_ok _) Za131 (fun(l:(List DVal)) hp hb=> ?_)
 have hl_l:l.length≤9223372036854775807:=bdL (hb _ m0)
 clear hp hb
 rw[Zv131 l]
 dsimp only
 refine⟨⟨by omega,by omega,rfl⟩,?_⟩
 rintro⟨i,⟨⟩⟩ ⟨h1,h2,hR⟩
 simp only
 refine if_cond (fun hc=> ?_) (fun hc=> ?_)
 ·have hc:=of_decide_eq_true hc
  rw[all_step _ _ zVal h1 (by omega)] at hR
  rw[wrap_i64 (by omega) (by omega)]
  refine⟨by omega,by omega,if_cond (fun h=>Lf_ff ?_) (fun h=>⟨⟨by omega,by omega,?_⟩,?_⟩)⟩
  ·rw[←hR];simp at h;simp[h]
  ·rw[←hR];simp at h;simp[h]
  ·simp only[Zm131_2];omega
 ·have hc:=of_decide_eq_false hc
  rw[drop_end _ (by omega)] at hR
  refine Lf_b ?_
  rw[←hR];simp;omega
def Zh131:HH:=⟨_,Zo131⟩
def Zk58:Con UU where
 α:=DFact
 md:=[.ro]
 of:=o1 (oA .eFact)
 ds:=fun x=>[dA .eFact x]
 pre:=fun _=>[]
 res:=fun f=>⟨[.one (.lit (.bool (factOk f)))],true,[]⟩
 law:=l1 (lA .eFact)
def Za58:Zk58.α→Nat→Option (Ann UU):=fun f=>annL []
def Zu58:=us [Zh130,Zh131]
theorem Zv58(f:DFact):goal EE Zu58 Go.Proofs.Tryz.f58 Zk58 Za58 f=(bif nameOk f.Kind then Lb (decide (f.Fields.length≤(5:Nat))&&List.all f.Fields valOk) (factOk f) else Lb false (factOk f)):=by kernel_rfl
theorem Zo58:Holds EE (58,Zk58):=by
 refine holds_of EE_ok Go.Proofs.Tryz.func58 Zk58 (by kernel_rfl) Zu58 (us_ok _) Za58 (fun(f:DFact) hp hb=> ?_)
 have hz0:=bd_eFact (x:=f) (hb _ m0)
 have hl_f_Kind:=hz0.1
 have hl_f_Fields:=hz0.2
 clear hp hb
 rw[Zv58 f]
 simp only[factOk]
 refine if_cond (fun h=>Lf_b ?_) (fun h=>Lf_b ?_)<;>grind
def Zh58:HH:=⟨_,Zo58⟩
def Zk61:Con UU where
 α:=DFact
 md:=[.ro]
 of:=o1 (oA .eFact)
 ds:=fun x=>[dA .eFact x]
 pre:=fun _=>[]
 res:=fun f=>⟨[.one (.lit (.bool (factOk f)))],true,[]⟩
 law:=l1 (lA .eFact)
def Zi61_4(f:DFact):Int×Unit→Prop:=fun(i,_)=>0≤i∧i≤f.Fields.length∧f.Fields.length≤5∧nameOk f.Kind=true∧(f.Fields.drop i.toNat).all valOk=f.Fields.all valOk
def Zm61_4(f:DFact):Int×Unit→Nat:=fun(i,_)=>f.Fields.length-i.toNat
def Za61:Zk61.α→Nat→Option (Ann UU):=fun f=>annL [(4,annOf [.slot 18 (18,1024) (.lit (.int .i64))] (fun _=>Zi61_4 f) (Zm61_4 f))]
def Zu61:=us [Zh134,Zh135]
theorem Zv61(f:DFact):goal EE Zu61 Go.Proofs.Tryz.f61 Zk61 Za61 f=(let x0:Int:=(f.Fields.length:Int);
bif !nameOk f.Kind then Lf [DV.one (Cell.lit (Value.bool false))] [DV.one (Cell.lit (Value.bool (factOk f)))] else bif decide (x0>(5:Int)) then Lf [DV.one (Cell.lit (Value.bool false))] [DV.one (Cell.lit (Value.bool (factOk f)))] else Zi61_4 f ((0:Int),PUnit.unit)∧∀(y:Int×PUnit),Zi61_4 f y→bif decide (y.1<x0) then(0:Int)≤y.1∧Int.toNat y.1<List.length f.Fields∧bif !valOk (List.getD f.Fields (Int.toNat y.1) zVal) then Lf [DV.one (Cell.lit (Value.bool false))] [DV.one (Cell.lit (Value.bool (factOk f)))] else Zi61_4 f (IntKind.wrap IntKind.i64 (y.1+(1:Int)),PUnit.unit)∧Zm61_4 f (IntKind.wrap IntKind.i64 (y.1+(1:Int)),PUnit.unit)<Zm61_4 f y else Lf [DV.one (Cell.lit (Value.bool true))] [DV.one (Cell.lit (Value.bool (factOk f)))]):=by kernel_rfl
theorem Zo61:Holds EE (61,Zk61):=by
 refine holds_of EE_ok Go.Proofs.Tryz.func61 Zk61 (by kernel_rfl) Zu61 (us_ok _) Za61 (fun(f:DFact) hp hb=> ?_)
 have hz0:=bd_eFact (x:=f) (hb _ m0)
 have hl_f_Kind:=hz0.1
 have hl_f_Fields:=hz0.2
 clear hp hb
 rw[Zv61 f]
 dsimp only
 refine if_cond (fun h=>Lf_b ?_) (fun h=>if_cond (fun h'=>Lf_b ?_) (fun h'=>⟨⟨by omega,by omega,by simp at h';omega,by simpa using h,rfl⟩,?_⟩))
 ·simp only[factOk];grind
 ·simp only[factOk];grind
 rintro⟨i,⟨⟩⟩ ⟨h1,h2,h3,h4,hR⟩
 simp only
 refine if_cond (fun hc=> ?_) (fun hc=> ?_)
 ·have hc:=of_decide_eq_true hc
  rw[all_step _ _ zVal h1 (by omega)] at hR
  rw[wrap_i64 (by omega) (by omega)]
  refine⟨by omega,by omega,if_cond (fun h=>Lf_ff ?_) (fun h=>⟨⟨by omega,by omega,by omega,h4,?_⟩,?_⟩)⟩
  ·simp only[factOk];rw[←hR];simp at h;simp[h]
  ·rw[←hR];simp at h;simp[h]
  ·simp only[Zm61_4];omega
 ·have hc:=of_decide_eq_false hc
  rw[drop_end _ (by omega)] at hR
  refine Lf_b ?_
  simp only[factOk,←hR,h4];simp;omega
def Zh61:HH:=⟨_,Zo61⟩
def Zk118:Con UU where
 α:=Int
 md:=[.ro]
 of:=o1 oI
 ds:=fun x=>[dI x]
 pre:=fun k=>[k≤4611686018427387903]
 res:=fun k=>⟨[.one (.lit (.string (markText k)))],true,[]⟩
 law:=l1 lI
def Zi118_4(k:Int):Int×ByteArray×Unit→Prop:=fun(j,out,_)=>0≤j∧j≤k∧(∃l d,out=⟨l.toArray⟩∧j.toNat≤d∧mtl d j.toNat l=mtl k.toNat k.toNat []∧l.length≤k-j)
def Zm118_4(k:Int):Int×ByteArray×Unit→Nat:=fun(j,out,_)=>j.toNat
def Za118:Zk118.α→Nat→Option (Ann UU):=fun k=>annL [(4,annOf [.slot 0 (0,1024) (.lit (.int .i64)),.slot 3 (3,1024) (.lit .str)] (fun _=>Zi118_4 k) (Zm118_4 k))]
def Zu118:List (FuncId×Con UU):=[]
theorem Zv118(k:Int):goal EE Zu118 Go.Proofs.Tryz.f118 Zk118 Za118 k=(bif decide (k≤(0:Int)) then Lf [DV.one (Cell.lit (Value.string {data:= #[(109:UInt8),(48:UInt8)]:ByteArray}))] [DV.one (Cell.lit (Value.string (markText k)))]
else
 Zi118_4 k (k,{data:= #[]:ByteArray},PUnit.unit)∧
  ∀(y:Int×ByteArray×PUnit),
   let x0:Nat:=ByteArray.size y.2.1;
   let x1:ByteArray:=strOfNums (List.map (fun(x:Cd.T Cd.byte)=>x) [IntKind.wrap IntKind.u8 (IntKind.wrap IntKind.i64 ((48:Int)+Int.tmod y.1 (10:Int)))]);
   Zi118_4 k y→bif decide (y.1>(0:Int)) then(10:Int)≠(0:Int)∧ByteArray.size x1+x0≤(4611686018427387904:Nat)∧(10:Int)≠(0:Int)∧Zi118_4 k (IntKind.wrap IntKind.i64 (Int.tdiv y.1 (10:Int)),x1++y.2.1,PUnit.unit)∧Zm118_4 k (IntKind.wrap IntKind.i64 (Int.tdiv y.1 (10:Int)),x1++y.2.1,PUnit.unit)<Zm118_4 k y else ByteArray.size {data:= #[(109:UInt8)]:ByteArray}+x0≤(4611686018427387904:Nat)∧Lf [DV.one (Cell.lit (Value.string ({data:= #[(109:UInt8)]:ByteArray}++y.2.1)))] [DV.one (Cell.lit (Value.string (markText k)))]):=by kernel_rfl
theorem Zo118:Holds EE (118,Zk118):=by
 refine holds_of EE_ok Go.Proofs.Tryz.func118 Zk118 (by kernel_rfl) Zu118 all_nil Za118 (fun(k:Int) hp hb=> ?_)
 have hl_k:=bdI (n:=k) (hb _ m0)
 have hp0:k≤4611686018427387903:=hp _ m0
 clear hp hb
 rw[Zv118 k]
 dsimp only
 refine if_cond (fun h=>Lf_s ?_) (fun h=> ?_)
 ·have h:=of_decide_eq_true h;simp only[markText];rw[if_pos h]
 have h0:=of_decide_eq_false h
 refine⟨⟨by omega,by omega,[],k.toNat,rfl,zca _,rfl,by simp⟩,?_⟩
 rintro⟨j,out,⟨⟩⟩ ⟨h1,h2,l,d,rfl,hd,hm,hl⟩
 simp only
 have hz:∀l:List UInt8,(ByteArray.mk l.toArray).size=l.length:=fun l=>by simp[ByteArray.size]
 refine if_cond (fun h=> ?_) (fun h=> ?_)
 ·have h:=of_decide_eq_true h
  have ht:Int.tmod j 10=j%10:=zbp h1
  have hq:Int.tdiv j 10=j/10:=Int.tdiv_eq_ediv_of_nonneg h1
  have hu:IntKind.wrap .u8 (48+j%10)=48+j%10:=by simp only[IntKind.wrap];simp[IntKind.bits,IntKind.signed];omega
  rw[ht,hq,wrap_i64 (by omega) (by omega),wrap_i64 (by omega) (by omega),hu]
  have hs:∀l:List UInt8,strOfNums (List.map (fun(x:Int)=>x) [48+j%10])++(⟨l.toArray⟩:ByteArray)=⟨((UInt8.ofNat (48+j.toNat%10))::l).toArray⟩:=fun l=>by
   have e:(48+j%10).toNat=48+j.toNat%10:=by omega
   simp only[strOfNums,zbt,List.map_nil,e]
   apply ByteArray.ext
   simp
  have hs1:(strOfNums (List.map (fun(x:Int)=>x) [48+j%10])).size=1:=rfl
  refine⟨by omega,by erw[hs1];rw[hz];omega,by omega,⟨by omega,by omega,_,d-1,hs l,by omega,?_,by simp only[zbq];omega⟩,by simp only[Zm118_4];omega⟩
  rw[←hm]
  obtain⟨d,rfl⟩:∃e,d=e+1:=⟨d-1,by omega⟩
  have e:(j/10).toNat=j.toNat/10:=by omega
  rw[e]
  simp only[Nat.add_sub_cancel,mtl]
  rw[if_neg (by omega)]
 ·have h:=of_decide_eq_false h
  have hj:j.toNat=0:=by omega
  rw[hj,mtl_zero] at hm
  refine⟨by rw[hz];simp[ByteArray.size];omega,Lf_s ?_⟩
  simp only[markText]
  rw[if_neg h0,←hm]
  apply ByteArray.ext
  simp
def Zh118:HH:=⟨_,Zo118⟩
def Zk143:Con UU where
 α:=(List Int)×Int
 md:=[.ro,.ro]
 of:=oC (oL .int) (o1 oI)
 ds:=fun x=>[dL .int x.1,dI x.2]
 pre:=fun(a,left)=>[0≤left]
 res:=fun(a,left)=>⟨[.one (.lit (.int .i64 (szr left (sizeIntS a))))],true,[]⟩
 law:=lC (lL .int) (l1 lI)
def Za143:Zk143.α→Nat→Option (Ann UU):=fun(a,left)=>annL []
def Zu143:List (FuncId×Con UU):=[]
theorem Zv143(a:(List Int))(left:Int):goal EE Zu143 Go.Proofs.Tryz.f143 Zk143 Za143 (a,left)=(let x0:Int:=IntKind.wrap IntKind.i64 (left-(a.length:Int));
bif decide (x0<(0:Int)) then Lf [DV.one (Cell.lit (Value.int IntKind.i64 (-1:Int)))] [DV.one (Cell.lit (Value.int IntKind.i64 (szr left (sizeIntS a))))] else Lf [DV.one (Cell.lit (Value.int IntKind.i64 x0))] [DV.one (Cell.lit (Value.int IntKind.i64 (szr left (sizeIntS a))))]):=by kernel_rfl
theorem Zo143:Holds EE (143,Zk143):=by
 refine holds_of EE_ok Go.Proofs.Tryz.func143 Zk143 (by kernel_rfl) Zu143 all_nil Za143 (fun x hp hb=> ?_)
 obtain⟨a,left⟩:=x
 have hl_a:a.length≤9223372036854775807:=bdL (hb _ m0)
 have hl_left:=bdI (n:=left) (hb _ m1)
 have hp0:0≤left:=hp _ m0
 clear hp hb
 rw[Zv143 a left]
 dsimp only
 rw[wrap_i64 (by omega) (by omega)]
 refine if_cond (fun h=>Lf_i (szr_bad' ?_)) (fun h=> ?_)
 ·have h:=of_decide_eq_true h;simp only[sizeIntS];omega
 have h:=of_decide_eq_false h
 exact Lf_i (by rw[←szr_ok' (by simp only[sizeIntS];omega)];simp only[sizeIntS])
def Zh143:HH:=⟨_,Zo143⟩
def Zk162:Con UU where
 α:=(List Int)
 md:=[.ro]
 of:=o1 (oL .int)
 ds:=fun x=>[dL .int x]
 pre:=fun a=>[sizeIntS a≤4294967296]
 res:=fun a=>⟨[.one (.sl .int a)],true,[]⟩
 law:=l1 (lL .int)
def Zi162_3(a:(List Int)):List Int×Int×Unit→Prop:=fun(out,i,_)=>0≤i∧i≤a.length∧out=a.take i.toNat++List.replicate (a.length-i.toNat) (0:Int)
def Zm162_3(a:(List Int)):List Int×Int×Unit→Nat:=fun(out,i,_)=>a.length-i.toNat
def Za162:Zk162.α→Nat→Option (Ann UU):=fun a=>annL [(3,annOf [.slot 3 (3,1024) (.own .int true),.slot 4 (4,1024) (.lit (.int .i64))] (fun _=>Zi162_3 a) (Zm162_3 a))]
def Zu162:List (FuncId×Con UU):=[]
theorem Zv162(a:(List Int)):goal EE Zu162 Go.Proofs.Tryz.f162 Zk162 Za162 a=(let x0:Int:=(a.length:Int);
(0:Int)≤x0∧
 x0=x0∧
  x0≤(4294967296:Int)∧
   Zi162_3 a (List.replicate (Int.toNat x0) (0:Int),(0:Int),PUnit.unit)∧
    ∀(y:List Int×Int×PUnit),
     let x1:Nat:=Int.toNat y.2.1;
     Zi162_3 a y→bif decide (y.2.1<x0) then(0:Int)≤y.2.1∧x1<List.length a∧(0:Int)≤y.2.1∧x1<List.length y.1∧x1<List.length y.1∧Zi162_3 a (List.set y.1 x1 (List.getD a x1 (0:Int)),IntKind.wrap IntKind.i64 (y.2.1+(1:Int)),PUnit.unit)∧Zm162_3 a (List.set y.1 x1 (List.getD a x1 (0:Int)),IntKind.wrap IntKind.i64 (y.2.1+(1:Int)),PUnit.unit)<Zm162_3 a y else Lf [DV.one (Cell.sl Cd.int y.1)] [DV.one (Cell.sl Cd.int a)]):=by kernel_rfl
theorem Zo162:Holds EE (162,Zk162):=by
 refine holds_of EE_ok Go.Proofs.Tryz.func162 Zk162 (by kernel_rfl) Zu162 all_nil Za162 (fun(a:(List Int)) hp hb=> ?_)
 have hl_a:a.length≤9223372036854775807:=bdL (hb _ m0)
 have hp0:sizeIntS a≤4294967296:=hp _ m0
 clear hp hb
 rw[Zv162 a]
 dsimp only
 have hlen:a.length≤4294967296:=by simp only[sizeIntS] at hp0;omega
 refine⟨by omega,rfl,by omega,?_,?_⟩
 ·simp[Zi162_3]
 rintro⟨out,i,⟨⟩⟩ ⟨h1,h2,rfl⟩
 simp only at*
 refine if_cond (fun hc=> ?_) (fun hc=> ?_)
 ·have hc:i<a.length:=by simpa using hc
  rw[wrap_i64 (by omega) (by omega),set_fill a (0:Int) h1 hc]
  exact⟨h1,by omega,h1,by simp;omega,by simp;omega,⟨by omega,by omega,rfl⟩,by simp only[Zm162_3];omega⟩
 ·have hc:a.length≤i:=by simpa using hc
  have e:i.toNat=a.length:=by omega
  rw[e];simp;exact Lf_rfl _
def Zh162:HH:=⟨_,Zo162⟩
def Zk184:Con UU where
 α:=(List Int)×(List Int)
 md:=[.ro,.ro]
 of:=oC (oL .int) (o1 (oL .int))
 ds:=fun x=>[dL .int x.1,dL .int x.2]
 pre:=fun _=>[]
 res:=fun(a,b)=>⟨[.one (.lit (.bool (decide (a=b))))],true,[]⟩
 law:=lC (lL .int) (l1 (lL .int))
def Zi184_4(a:(List Int))(b:(List Int)):Int×Unit→Prop:=fun(i,_)=>0≤i∧i≤a.length∧a.length=b.length∧(a.drop i.toNat=b.drop i.toNat↔a=b)
def Zm184_4(a:(List Int))(b:(List Int)):Int×Unit→Nat:=fun(i,_)=>a.length-i.toNat
def Za184:Zk184.α→Nat→Option (Ann UU):=fun(a,b)=>annL [(4,annOf [.slot 5 (5,1024) (.lit (.int .i64))] (fun _=>Zi184_4 a b) (Zm184_4 a b))]
def Zu184:List (FuncId×Con UU):=[]
theorem Zv184(a:(List Int))(b:(List Int)):goal EE Zu184 Go.Proofs.Tryz.f184 Zk184 Za184 (a,b)=(bif (a.length:Int) !=(b.length:Int) then Lb false (decide (a=b)) else Zi184_4 a b ((0:Int),())∧∀(y:Int×PUnit),Zi184_4 a b y→bif decide (y.1<(a.length:Int)) then(0:Int)≤y.1∧y.1.toNat<a.length∧(0:Int)≤y.1∧y.1.toNat<b.length∧bif List.getD a y.1.toNat (0:Int) !=List.getD b y.1.toNat (0:Int) then Lb false (decide (a=b)) else Zi184_4 a b (IntKind.wrap IntKind.i64 (y.1+(1:Int)),())∧Zm184_4 a b (IntKind.wrap IntKind.i64 (y.1+(1:Int)),())<Zm184_4 a b y else Lb true (decide (a=b))):=by kernel_rfl
theorem Zo184:Holds EE (184,Zk184):=by
 refine holds_of EE_ok Go.Proofs.Tryz.func184 Zk184 (by kernel_rfl) Zu184 all_nil Za184 (fun x hp hb=> ?_)
 obtain⟨a,b⟩:=x
 have hl_a:a.length≤9223372036854775807:=bdL (hb _ m0)
 have hl_b:b.length≤9223372036854775807:=bdL (hb _ m1)
 clear hp hb
 rw[Zv184 a b]
 refine if_cond (fun h=>Lf_f ?_) (fun h=>⟨?_,?_⟩)
 ·rintro rfl;simp at h
 ·simp[Zi184_4] at*;omega
 rintro⟨i,⟨⟩⟩ ⟨h1,h2,h3,hR⟩
 simp only at*
 refine if_cond (fun hc=> ?_) (fun hc=> ?_)
 ·have hc:i<a.length:=by simpa using hc
  rw[drop_step a (0:Int) h1 hc,drop_step b (0:Int) h1 (by omega)] at hR
  rw[wrap_i64 (by omega) (by omega)]
  refine⟨by omega,by omega,by omega,by omega,if_cond (fun h=>Lf_f ?_) (fun h=>⟨⟨by omega,by omega,h3,?_⟩,?_⟩)⟩
  ·rw[←hR];simp at h;simp[h]
  ·rw[←hR];simp at h;simp[h]
  ·simp only[Zm184_4];omega
 ·have hc:a.length≤i:=by simpa using hc
  rw[drop_end a hc,drop_end b (by omega)] at hR
  exact Lf_t (hR.1 rfl)
def Zh184:HH:=⟨_,Zo184⟩
def Zk123:Con UU where
 α:=(List Int)×Int
 md:=[.wr,.ro]
 of:=oC (oL .int) (o1 oI)
 ds:=fun x=>[dL .int x.1,dI x.2]
 pre:=fun(a,k)=>[0≤k,k+cntIntS a≤4611686018427387904]
 res:=fun(a,k)=>⟨[.one (.lit (.int .i64 (k+cntIntS a)))],true,[.one (.sl .int (markIntS a k))]⟩
 law:=lC (lL .int) (l1 lI)
def Zi123_2(a:(List Int))(k:Int):List Int×Int×Int×Unit→Prop:=fun(row,kk,i,_)=>0≤i∧i≤a.length∧row=(mkS (fun _ k=>k) (fun _=>1) a k).take i.toNat++a.drop i.toNat∧kk=k+ctS (fun _=>1) (a.take i.toNat)
def Zm123_2(a:(List Int))(k:Int):List Int×Int×Int×Unit→Nat:=fun(row,kk,i,_)=>a.length-i.toNat
def Za123:Zk123.α→Nat→Option (Ann UU):=fun(a,k)=>annL [(2,annOf [.slot 0 (2000000,0) (.own .int true),.slot 1 (1,1024) (.lit (.int .i64)),.slot 5 (5,1024) (.lit (.int .i64))] (fun _=>Zi123_2 a k) (Zm123_2 a k))]
def Zu123:List (FuncId×Con UU):=[]
theorem Zv123(a:(List Int))(k:Int):goal EE Zu123 Go.Proofs.Tryz.f123 Zk123 Za123 (a,k)=(Zi123_2 a k (a,k,(0:Int),())∧
 ∀(y:List Int×Int×Int×PUnit),
  let x0:Nat:=Int.toNat y.2.2.1;
  Zi123_2 a k y→bif decide (y.2.2.1<(↑(List.length y.1):Int)) then(0:Int)≤y.2.2.1∧x0<List.length y.1∧x0<List.length y.1∧Zi123_2 a k (List.set y.1 x0 y.2.1,IntKind.wrap IntKind.i64 (y.2.1+(1:Int)),IntKind.wrap IntKind.i64 (y.2.2.1+(1:Int)),PUnit.unit)∧Zm123_2 a k (List.set y.1 x0 y.2.1,IntKind.wrap IntKind.i64 (y.2.1+(1:Int)),IntKind.wrap IntKind.i64 (y.2.2.1+(1:Int)),PUnit.unit)<Zm123_2 a k y else asD [DV.one (Cell.lit (Value.int IntKind.i64 y.2.1))]=asD [DV.one (Cell.lit (Value.int IntKind.i64 (k+(↑(cntIntS a):Int))))]∧asD [DV.one (Cell.sl Cd.int y.1)]=asD [DV.one (Cell.sl Cd.int (markIntS a k))]):=by kernel_rfl
theorem Zo123:Holds EE (123,Zk123):=by
 refine holds_of EE_ok Go.Proofs.Tryz.func123 Zk123 (by kernel_rfl) Zu123 all_nil Za123 (fun x hp hb=> ?_)
 obtain⟨a,k⟩:=x
 have hl_a:a.length≤9223372036854775807:=bdL (hb _ m0)
 have hl_k:=bdI (n:=k) (hb _ m1)
 have hp0:0≤k:=hp _ m0
 have hp1:k+cntIntS a≤4611686018427387904:=hp _ m1
 clear hp hb
 rw[Zv123 a k]
 dsimp only
 refine⟨⟨by omega,by omega,by simp,by simp[ctS]⟩,?_⟩
 rintro⟨row,kk,i,⟨⟩⟩ ⟨h1,h2,rfl,rfl⟩
 simp only
 have hl:=mk_rl (fun _ k=>k) (fun _=>1) a k h1 h2
 refine if_cond (fun hc=> ?_) (fun hc=> ?_)
 ·have hc:i<a.length:=by have hc:=of_decide_eq_true hc;omega
  have hct:=ctS_take (fun _=>1) a (0:Int) h1 hc
  have hle:=ctS_take_le (fun _=>1) a (i+1).toNat
  have hg:=mk_getD _ a (0:Int) (mk_tl (fun _ k=>k) (fun _=>1) a k h1 h2) h1 hc
  have hM:=mkS_step (fun _ k=>k) (fun _=>1) a (0:Int) k h1 hc
  have hq:(cntIntS a:Int)=ctS (fun _=>1) a:=rfl
  generalize List.getD a i.toNat (0:Int)=x at*
  generalize hkk:k+(ctS (fun _=>1) (a.take i.toNat):Int)=kk at*
  generalize List.take i.toNat (mkS (fun _ k=>k) (fun _=>1) a k)++List.drop i.toNat a=R at*
  simp(disch:=first|omega|(simp only[zbf];omega)) only[zbf,wrap_i64,getD_modify,modify_modify,hg,hl]
  repeat' (first|refine And.intro (by omega) ?_|fail)
  exact⟨⟨by omega,by omega,hM,by omega⟩,by simp only[Zm123_2];omega⟩
 ·have hc:a.length≤i:=by have hc:=of_decide_eq_false hc;omega
  rw[mk_done (fun _ k=>k) (fun _=>1) a k hc,ct_done (fun _=>1) a hc]
  exact⟨rfl,rfl⟩
def Zh123:HH:=⟨_,Zo123⟩
def Zk126:Con UU where
 α:=(List Int)×Int
 md:=[.ro,.ro]
 of:=oC (oL .int) (o1 oI)
 ds:=fun x=>[dL .int x.1,dI x.2]
 pre:=fun(a,k)=>[0≤k,k+cntIntS a≤4611686018427387904]
 res:=fun(a,k)=>⟨[.one (.lit (.int .i64 (if markIntS a k=a then k+cntIntS a else-1)))],true,[]⟩
 law:=lC (lL .int) (l1 lI)
def Zi126_2(a:(List Int))(k:Int):Int×Int×Unit→Prop:=fun(kk,i,_)=>0≤i∧i≤a.length∧kk=k+ctS (fun _=>1) (a.take i.toNat)∧(mkS (fun _ k=>k) (fun _=>1) (a.drop i.toNat) kk=a.drop i.toNat↔mkS (fun _ k=>k) (fun _=>1) a k=a)
def Zm126_2(a:(List Int))(k:Int):Int×Int×Unit→Nat:=fun(kk,i,_)=>a.length-i.toNat
def Za126:Zk126.α→Nat→Option (Ann UU):=fun(a,k)=>annL [(2,annOf [.slot 1 (1,1024) (.lit (.int .i64)),.slot 5 (5,1024) (.lit (.int .i64))] (fun _=>Zi126_2 a k) (Zm126_2 a k))]
def Zu126:List (FuncId×Con UU):=[]
theorem Zv126(a:(List Int))(k:Int):goal EE Zu126 Go.Proofs.Tryz.f126 Zk126 Za126 (a,k)=(Zi126_2 a k (k,(0:Int),())∧
 ∀(y:Int×Int×PUnit),
  let x0:Nat:=Int.toNat y.2.1;
  Zi126_2 a k y→bif decide (y.2.1<(↑(List.length a):Int)) then(0:Int)≤y.2.1∧x0<List.length a∧bif List.getD a x0 (0:Int) !=y.1 then Lf [DV.one (Cell.lit (Value.int IntKind.i64 (-1:Int)))] [DV.one (Cell.lit (Value.int IntKind.i64 (if markIntS a k=a then k+(↑(cntIntS a):Int) else(-1:Int))))] else Zi126_2 a k (IntKind.wrap IntKind.i64 (y.1+(1:Int)),IntKind.wrap IntKind.i64 (y.2.1+(1:Int)),PUnit.unit)∧Zm126_2 a k (IntKind.wrap IntKind.i64 (y.1+(1:Int)),IntKind.wrap IntKind.i64 (y.2.1+(1:Int)),PUnit.unit)<Zm126_2 a k y else Lf [DV.one (Cell.lit (Value.int IntKind.i64 y.1))] [DV.one (Cell.lit (Value.int IntKind.i64 (if markIntS a k=a then k+(↑(cntIntS a):Int) else(-1:Int))))]):=by kernel_rfl
theorem Zo126:Holds EE (126,Zk126):=by
 refine holds_of EE_ok Go.Proofs.Tryz.func126 Zk126 (by kernel_rfl) Zu126 all_nil Za126 (fun x hp hb=> ?_)
 obtain⟨a,k⟩:=x
 have hl_a:a.length≤9223372036854775807:=bdL (hb _ m0)
 have hl_k:=bdI (n:=k) (hb _ m1)
 have hp0:0≤k:=hp _ m0
 have hp1:k+cntIntS a≤4611686018427387904:=hp _ m1
 clear hp hb
 rw[Zv126 a k]
 dsimp only
 refine⟨⟨by omega,by omega,by simp[ctS],by simp⟩,?_⟩
 rintro⟨kk,i,⟨⟩⟩ ⟨h1,h2,hkk,hR⟩
 simp only
 simp only[markIntS]
 refine if_cond (fun hc=> ?_) (fun hc=> ?_)
 ·have hc:i<a.length:=by have hc:=of_decide_eq_true hc;omega
  have hct:=ctS_take (fun _=>1) a (0:Int) h1 hc
  have hle:=ctS_take_le (fun _=>1) a (i+1).toNat
  have hq:(cntIntS a:Int)=ctS (fun _=>1) a:=rfl
  rw[drop_step a (0:Int) h1 hc] at hR
  generalize List.getD a i.toNat (0:Int)=x at*
  simp only[mkS,zdd] at hR
  have e:kk+(((1:Nat):Int):Int)=kk+1:=by first|(simp only[CU];done)|(rfl)
  rw[e] at hR
  skip
  simp(disch:=omega) only[wrap_i64,bne_int,toList_beq]
  repeat' (first|refine And.intro (by omega) ?_|fail)
  refine if_cond (fun h=>Lf_no (fun hh=> ?_)) (fun h=> ?_)
  ·have hh:=hR.2 hh;simp_all
  have h:x=kk:=by simpa using h
  subst x
  exact⟨⟨by omega,by omega,by omega,by simpa using hR⟩,by simp only[Zm126_2];omega⟩
 ·have hc:a.length≤i:=by have hc:=of_decide_eq_false hc;omega
  rw[drop_end a hc] at hR
  exact Lf_yes (hR.1 rfl) (by rw[hkk,ct_done _ _ hc];rfl)
def Zh126:HH:=⟨_,Zo126⟩
def Zk129:Con UU where
 α:=DVal×Int
 md:=[.ro,.ro]
 of:=oC (oA .lVal) (o1 oI)
 ds:=fun x=>[dA .lVal x.1,dI x.2]
 pre:=fun(a,left)=>[0≤left]
 res:=fun(a,left)=>⟨[.one (.lit (.int .i64 (szr left (sizeVal a))))],true,[]⟩
 law:=lC (lA .lVal) (l1 lI)
def Za129:Zk129.α→Nat→Option (Ann UU):=fun(a,left)=>annL []
def Zu129:List (FuncId×Con UU):=[]
theorem Zv129(a:DVal)(left:Int):goal EE Zu129 Go.Proofs.Tryz.f129 Zk129 Za129 (a,left)=(let x0:Int:=IntKind.wrap IntKind.i64 (left-(↑(ByteArray.size a.S):Int));
bif decide (x0<(0:Int)) then Lf [DV.one (Cell.lit (Value.int IntKind.i64 (-1:Int)))] [DV.one (Cell.lit (Value.int IntKind.i64 (szr left (sizeVal a))))] else Lf [DV.one (Cell.lit (Value.int IntKind.i64 x0))] [DV.one (Cell.lit (Value.int IntKind.i64 (szr left (sizeVal a))))]):=by kernel_rfl
theorem Zo129:Holds EE (129,Zk129):=by
 refine holds_of EE_ok Go.Proofs.Tryz.func129 Zk129 (by kernel_rfl) Zu129 all_nil Za129 (fun x hp hb=> ?_)
 obtain⟨a,left⟩:=x
 have hl_a_S:=bd_lVal (x:=a) (hb _ m0)
 have hl_left:=bdI (n:=left) (hb _ m1)
 have hp0:0≤left:=hp _ m0
 clear hp hb
 rw[Zv129 a left]
 dsimp only
 rw[wrap_i64 (by omega) (by omega)]
 refine if_cond (fun h=>Lf_i (szr_bad' ?_)) (fun h=> ?_)
 ·have h:=of_decide_eq_true h;simp only[sizeVal];omega
 have h0:=of_decide_eq_false h
 exact Lf_i (by rw[←szr_ok' (by simp only[sizeVal];omega)];simp only[sizeVal];try omega)
def Zh129:HH:=⟨_,Zo129⟩
def Zk133:Con UU where
 α:=DVal
 md:=[.ro]
 of:=o1 (oA .lVal)
 ds:=fun x=>[dA .lVal x]
 pre:=fun a=>[sizeVal a≤4294967296]
 res:=fun a=>⟨[.agg [.lit (.int .i64 a.K),.lit (.int .i64 a.N),.lit (.string a.S)]],true,[]⟩
 law:=l1 (lA .lVal)
def Za133:Zk133.α→Nat→Option (Ann UU):=fun a=>annL []
def Zu133:List (FuncId×Con UU):=[]
theorem Zv133(a:DVal):goal EE Zu133 Go.Proofs.Tryz.f133 Zk133 Za133 a=(Lf [DV.agg [Cell.lit (Value.int IntKind.i64 a.K),Cell.lit (Value.int IntKind.i64 a.N),Cell.lit (Value.string a.S)]] [DV.agg [Cell.lit (Value.int IntKind.i64 a.K),Cell.lit (Value.int IntKind.i64 a.N),Cell.lit (Value.string a.S)]]):=by kernel_rfl
theorem Zo133:Holds EE (133,Zk133):=by
 refine holds_of EE_ok Go.Proofs.Tryz.func133 Zk133 (by kernel_rfl) Zu133 all_nil Za133 (fun(a:DVal) hp hb=> ?_)
 have hl_a_S:=bd_lVal (x:=a) (hb _ m0)
 have hp0:sizeVal a≤4294967296:=hp _ m0
 clear hp hb
 rw[Zv133 a]
 simp only[sizeVal] at hp0
 repeat' (first|exact Lf_rfl _|(refine And.intro (by omega) ?_))
def Zh133:HH:=⟨_,Zo133⟩
def Zk138:Con UU where
 α:=DVal×DVal
 md:=[.ro,.ro]
 of:=oC (oA .eVal) (o1 (oA .eVal))
 ds:=fun x=>[dA .eVal x.1,dA .eVal x.2]
 pre:=fun _=>[]
 res:=fun(a,b)=>⟨[.one (.lit (.bool (decide (a=b))))],true,[]⟩
 law:=lC (lA .eVal) (l1 (lA .eVal))
def Za138:Zk138.α→Nat→Option (Ann UU):=fun(a,b)=>annL []
def Zu138:List (FuncId×Con UU):=[]
theorem Zv138(a:DVal)(b:DVal):goal EE Zu138 Go.Proofs.Tryz.f138 Zk138 Za138 (a,b)=(bif a.K !=b.K then Lb false (decide (a=b)) else bif a.N !=b.N then Lb false (decide (a=b)) else bif !ByteArray.toList a.S==ByteArray.toList b.S then Lb false (decide (a=b)) else Lb true (decide (a=b))):=by kernel_rfl
theorem Zo138:Holds EE (138,Zk138):=by
 refine holds_of EE_ok Go.Proofs.Tryz.func138 Zk138 (by kernel_rfl) Zu138 all_nil Za138 (fun x hp hb=> ?_)
 obtain⟨a,b⟩:=x
 have hl_a_S:=bd_eVal (x:=a) (hb _ m0)
 have hl_b_S:=bd_eVal (x:=b) (hb _ m1)
 clear hp hb
 rw[Zv138 a b]
 obtain⟨aK,aN,aS⟩:=a
 obtain⟨bK,bN,bS⟩:=b
 repeat' (apply if_cond<;>intro _)
 all_goals (first|apply Lf_t|apply Lf_f)<;>simp_all
def Zh138:HH:=⟨_,Zo138⟩
def Zk57:Con UU where
 α:=(List DVal)×Int
 md:=[.ro,.ro]
 of:=oC (oL .lVal) (o1 oI)
 ds:=fun x=>[dL .lVal x.1,dI x.2]
 pre:=fun(a,left)=>[0≤left]
 res:=fun(a,left)=>⟨[.one (.lit (.int .i64 (szr left (sizeValS a))))],true,[]⟩
 law:=lC (lL .lVal) (l1 lI)
def Zi57_5(a:(List DVal))(left:Int):Int×Int×Unit→Prop:=szI sizeVal a (sizeValS a) left
def Zm57_5(a:(List DVal))(left:Int):Int×Int×Unit→Nat:=rM2 a
def Za57:Zk57.α→Nat→Option (Ann UU):=fun(a,left)=>annL [(5,annOf [.slot 1 (1,1024) (.lit (.int .i64)),.slot 5 (5,1024) (.lit (.int .i64))] (fun _=>Zi57_5 a left) (Zm57_5 a left))]
def Zu57:=us [Zh129]
theorem Zv57(a:(List DVal))(left:Int):goal EE Zu57 Go.Proofs.Tryz.f57 Zk57 Za57 (a,left)=(szV sizeVal zVal a (sizeValS a) left):=by kernel_rfl
theorem Zo57:Holds EE (57,Zk57):=by
 refine holds_of EE_ok Go.Proofs.Tryz.func57 Zk57 (by kernel_rfl) Zu57 (us_ok _) Za57 (fun x hp hb=> ?_)
 obtain⟨a,left⟩:=x
 have hl_a:a.length≤9223372036854775807:=bdL (hb _ m0)
 have hl_left:=bdI (n:=left) (hb _ m1)
 have hp0:0≤left:=hp _ m0
 clear hp hb
 rw[Zv57 a left]
 exact szV_ok rfl hp0 hl_left hl_a
def Zh57:HH:=⟨_,Zo57⟩
def Zk60:Con UU where
 α:=(List DVal)
 md:=[.ro]
 of:=o1 (oL .lVal)
 ds:=fun x=>[dL .lVal x]
 pre:=fun a=>[sizeValS a≤4294967296]
 res:=fun a=>⟨[.one (.sl .eVal a)],true,[]⟩
 law:=l1 (lL .lVal)
def Zi60_3(a:(List DVal)):List DVal×Int×Unit→Prop:=toI zVal a
def Zm60_3(a:(List DVal)):List DVal×Int×Unit→Nat:=rM2 a
def Za60:Zk60.α→Nat→Option (Ann UU):=fun a=>annL [(3,annOf [.slot 3 (3,1024) (.own .eVal true),.slot 4 (4,1024) (.lit (.int .i64))] (fun _=>Zi60_3 a) (Zm60_3 a))]
def Zu60:=us [Zh133]
theorem Zv60(a:(List DVal)):goal EE Zu60 Go.Proofs.Tryz.f60 Zk60 Za60 a=(toV sizeVal zVal a fun y=>Lf [.one (.sl .eVal y)] [.one (.sl .eVal a)]):=by kernel_rfl
theorem Zo60:Holds EE (60,Zk60):=by
 refine holds_of EE_ok Go.Proofs.Tryz.func60 Zk60 (by kernel_rfl) Zu60 (us_ok _) Za60 (fun(a:(List DVal)) hp hb=> ?_)
 have hl_a:a.length≤9223372036854775807:=bdL (hb _ m0)
 have hp0:sizeValS a≤4294967296:=hp _ m0
 clear hp hb
 rw[Zv60 a]
 exact toV_ok hp0 (Lf_rfl _)
def Zh60:HH:=⟨_,Zo60⟩
def Zk63:Con UU where
 α:=(List DVal)×(List DVal)
 md:=[.ro,.ro]
 of:=oC (oL .eVal) (o1 (oL .eVal))
 ds:=fun x=>[dL .eVal x.1,dL .eVal x.2]
 pre:=fun _=>[]
 res:=fun(a,b)=>⟨[.one (.lit (.bool (decide (a=b))))],true,[]⟩
 law:=lC (lL .eVal) (l1 (lL .eVal))
def Zi63_4(a:(List DVal))(b:(List DVal)):Int×Unit→Prop:=eqI a b
def Zm63_4(a:(List DVal))(b:(List DVal)):Int×Unit→Nat:=rM1 a
def Za63:Zk63.α→Nat→Option (Ann UU):=fun(a,b)=>annL [(4,annOf [.slot 5 (5,1024) (.lit (.int .i64))] (fun _=>Zi63_4 a b) (Zm63_4 a b))]
def Zu63:=us [Zh138]
theorem Zv63(a:(List DVal))(b:(List DVal)):goal EE Zu63 Go.Proofs.Tryz.f63 Zk63 Za63 (a,b)=(eqV zVal a b):=by kernel_rfl
theorem Zo63:Holds EE (63,Zk63):=by
 refine holds_of EE_ok Go.Proofs.Tryz.func63 Zk63 (by kernel_rfl) Zu63 (us_ok _) Za63 (fun x hp hb=> ?_)
 obtain⟨a,b⟩:=x
 have hl_a:a.length≤9223372036854775807:=bdL (hb _ m0)
 have hl_b:b.length≤9223372036854775807:=bdL (hb _ m1)
 clear hp hb
 rw[Zv63 a b]
 exact eqV_ok hl_a
def Zh63:HH:=⟨_,Zo63⟩
def Zk64:Con UU where
 α:=(List DVal)×Int
 md:=[.wr,.ro]
 of:=oC (oL .eVal) (o1 oI)
 ds:=fun x=>[dL .eVal x.1,dI x.2]
 pre:=fun(a,k)=>[0≤k,k+cntValS a≤4611686018427387904]
 res:=fun(a,k)=>⟨[.one (.lit (.int .i64 (k+cntValS a)))],true,[.one (.sl .eVal (markValS a k))]⟩
 law:=lC (lL .eVal) (l1 lI)
def Zi64_2(a:(List DVal))(k:Int):List DVal×Int×Int×Unit→Prop:=fun(row,kk,i,_)=>0≤i∧i≤a.length∧row=(mkS markVal cntVal a k).take i.toNat++a.drop i.toNat∧kk=k+ctS cntVal (a.take i.toNat)
def Zm64_2(a:(List DVal))(k:Int):List DVal×Int×Int×Unit→Nat:=fun(row,kk,i,_)=>a.length-i.toNat
def Za64:Zk64.α→Nat→Option (Ann UU):=fun(a,k)=>annL [(2,annOf [.slot 0 (2000000,0) (.own .eVal true),.slot 1 (1,1024) (.lit (.int .i64)),.slot 5 (5,1024) (.lit (.int .i64))] (fun _=>Zi64_2 a k) (Zm64_2 a k))]
def Zu64:=us [Zh118]
theorem Zv64(a:(List DVal))(k:Int):goal EE Zu64 Go.Proofs.Tryz.f64 Zk64 Za64 (a,k)=(Zi64_2 a k (a,k,(0:Int),())∧
 ∀(y:List DVal×Int×Int×PUnit),
  let x0:Nat:=Int.toNat y.2.2.1;
  let x3:Int:=IntKind.wrap IntKind.i64 (y.2.1+(1:Int));
  let x4:List DVal:=List.modify y.1 x0 fun(x:DVal)=>{K:=y.2.1,N:=x.N,S:=x.S:DVal};
  let x1:Int:=IntKind.wrap IntKind.i64 (x3+(1:Int));
  let x2:List DVal:=List.modify x4 x0 fun(x:DVal)=>{K:=x.K,N:=x3,S:=x.S:DVal};
  Zi64_2 a k y→bif decide (y.2.2.1<(↑(List.length y.1):Int)) then(0:Int)≤y.2.2.1∧x0<List.length y.1∧x0<List.length y.1∧(0:Int)≤y.2.2.1∧x0<List.length x4∧x0<List.length x4∧x1≤(4611686018427387903:Int)∧(0:Int)≤y.2.2.1∧x0<List.length x2∧x0<List.length x2∧Zi64_2 a k (List.modify x2 x0 fun(x:DVal)=>{K:=x.K,N:=x.N,S:=markText x1:DVal},IntKind.wrap IntKind.i64 (x1+(1:Int)),IntKind.wrap IntKind.i64 (y.2.2.1+(1:Int)),PUnit.unit)∧Zm64_2 a k (List.modify x2 x0 fun(x:DVal)=>{K:=x.K,N:=x.N,S:=markText x1:DVal},IntKind.wrap IntKind.i64 (x1+(1:Int)),IntKind.wrap IntKind.i64 (y.2.2.1+(1:Int)),PUnit.unit)<Zm64_2 a k y else asD [DV.one (Cell.lit (Value.int IntKind.i64 y.2.1))]=asD [DV.one (Cell.lit (Value.int IntKind.i64 (k+(↑(cntValS a):Int))))]∧asD [DV.one (Cell.sl Cd.eVal y.1)]=asD [DV.one (Cell.sl Cd.eVal (markValS a k))]):=by kernel_rfl
theorem Zo64:Holds EE (64,Zk64):=by
 refine holds_of EE_ok Go.Proofs.Tryz.func64 Zk64 (by kernel_rfl) Zu64 (us_ok _) Za64 (fun x hp hb=> ?_)
 obtain⟨a,k⟩:=x
 have hl_a:a.length≤9223372036854775807:=bdL (hb _ m0)
 have hl_k:=bdI (n:=k) (hb _ m1)
 have hp0:0≤k:=hp _ m0
 have hp1:k+cntValS a≤4611686018427387904:=hp _ m1
 clear hp hb
 rw[Zv64 a k]
 dsimp only
 refine⟨⟨by omega,by omega,by simp,by simp[ctS]⟩,?_⟩
 rintro⟨row,kk,i,⟨⟩⟩ ⟨h1,h2,rfl,rfl⟩
 simp only
 have hl:=mk_rl markVal cntVal a k h1 h2
 refine if_cond (fun hc=> ?_) (fun hc=> ?_)
 ·have hc:i<a.length:=by have hc:=of_decide_eq_true hc;omega
  have hct:=ctS_take cntVal a zVal h1 hc
  have hle:=ctS_take_le cntVal a (i+1).toNat
  have hg:=mk_getD _ a zVal (mk_tl markVal cntVal a k h1 h2) h1 hc
  have hM:=fun F hF=>mkS_mod markVal cntVal a zVal k (i:=i) F h1 hc hF
  have hq:(cntValS a:Int)=ctS cntVal a:=rfl
  generalize List.getD a i.toNat zVal=x at*
  generalize hkk:k+(ctS cntVal (a.take i.toNat):Int)=kk at*
  generalize List.take i.toNat (mkS markVal cntVal a k)++List.drop i.toNat a=R at*
  simp only[cntVal] at hct
  simp(disch:=first|omega|(simp only[zbf];omega)) only[zbf,wrap_i64,getD_modify,modify_modify,hg,hl]
  repeat' (first|refine And.intro (by omega) ?_|fail)
  exact⟨⟨by omega,by omega,hM _ (by first|rfl|(simp only[markVal,markBool];rw[zbp (by omega)];rfl)),by omega⟩,by simp only[Zm64_2];omega⟩
 ·have hc:a.length≤i:=by have hc:=of_decide_eq_false hc;omega
  rw[mk_done markVal cntVal a k hc,ct_done cntVal a hc]
  exact⟨rfl,rfl⟩
def Zh64:HH:=⟨_,Zo64⟩
def Zk128:Con UU where
 α:=(List DVal)×Int
 md:=[.ro,.ro]
 of:=oC (oL .eVal) (o1 oI)
 ds:=fun x=>[dL .eVal x.1,dI x.2]
 pre:=fun(a,k)=>[0≤k,k+cntValS a≤4611686018427387904]
 res:=fun(a,k)=>⟨[.one (.lit (.int .i64 (if markValS a k=a then k+cntValS a else-1)))],true,[]⟩
 law:=lC (lL .eVal) (l1 lI)
def Zi128_2(a:(List DVal))(k:Int):Int×Int×Unit→Prop:=fun(kk,i,_)=>0≤i∧i≤a.length∧kk=k+ctS cntVal (a.take i.toNat)∧(mkS markVal cntVal (a.drop i.toNat) kk=a.drop i.toNat↔mkS markVal cntVal a k=a)
def Zm128_2(a:(List DVal))(k:Int):Int×Int×Unit→Nat:=fun(kk,i,_)=>a.length-i.toNat
def Za128:Zk128.α→Nat→Option (Ann UU):=fun(a,k)=>annL [(2,annOf [.slot 1 (1,1024) (.lit (.int .i64)),.slot 5 (5,1024) (.lit (.int .i64))] (fun _=>Zi128_2 a k) (Zm128_2 a k))]
def Zu128:=us [Zh118]
theorem Zv128(a:(List DVal))(k:Int):goal EE Zu128 Go.Proofs.Tryz.f128 Zk128 Za128 (a,k)=(Zi128_2 a k (k,(0:Int),())∧
 ∀(y:Int×Int×PUnit),
  let x1:Nat:=Int.toNat y.2.1;
  let x2:Int:=IntKind.wrap IntKind.i64 (IntKind.wrap IntKind.i64 (y.1+(1:Int))+(1:Int));
  let x0:DVal:=List.getD a x1 zVal;
  Zi128_2 a k y→bif decide (y.2.1<(↑(List.length a):Int)) then(0:Int)≤y.2.1∧x1<List.length a∧bif x0.K !=y.1 then Lf [DV.one (Cell.lit (Value.int IntKind.i64 (-1:Int)))] [DV.one (Cell.lit (Value.int IntKind.i64 (if markValS a k=a then k+(↑(cntValS a):Int) else(-1:Int))))] else(0:Int)≤y.2.1∧x1<List.length a∧bif x0.N !=IntKind.wrap IntKind.i64 (y.1+(1:Int)) then Lf [DV.one (Cell.lit (Value.int IntKind.i64 (-1:Int)))] [DV.one (Cell.lit (Value.int IntKind.i64 (if markValS a k=a then k+(↑(cntValS a):Int) else(-1:Int))))] else(0:Int)≤y.2.1∧x1<List.length a∧x2≤(4611686018427387903:Int)∧bif !ByteArray.toList x0.S==ByteArray.toList (markText x2) then Lf [DV.one (Cell.lit (Value.int IntKind.i64 (-1:Int)))] [DV.one (Cell.lit (Value.int IntKind.i64 (if markValS a k=a then k+(↑(cntValS a):Int) else(-1:Int))))] else Zi128_2 a k (IntKind.wrap IntKind.i64 (x2+(1:Int)),IntKind.wrap IntKind.i64 (y.2.1+(1:Int)),PUnit.unit)∧Zm128_2 a k (IntKind.wrap IntKind.i64 (x2+(1:Int)),IntKind.wrap IntKind.i64 (y.2.1+(1:Int)),PUnit.unit)<Zm128_2 a k y else Lf [DV.one (Cell.lit (Value.int IntKind.i64 y.1))] [DV.one (Cell.lit (Value.int IntKind.i64 (if markValS a k=a then k+(↑(cntValS a):Int) else(-1:Int))))]):=by kernel_rfl
theorem Zo128:Holds EE (128,Zk128):=by
 refine holds_of EE_ok Go.Proofs.Tryz.func128 Zk128 (by kernel_rfl) Zu128 (us_ok _) Za128 (fun x hp hb=> ?_)
 obtain⟨a,k⟩:=x
 have hl_a:a.length≤9223372036854775807:=bdL (hb _ m0)
 have hl_k:=bdI (n:=k) (hb _ m1)
 have hp0:0≤k:=hp _ m0
 have hp1:k+cntValS a≤4611686018427387904:=hp _ m1
 clear hp hb
 rw[Zv128 a k]
 dsimp only
 refine⟨⟨by omega,by omega,by simp[ctS],by simp⟩,?_⟩
 rintro⟨kk,i,⟨⟩⟩ ⟨h1,h2,hkk,hR⟩
 simp only
 simp only[markValS]
 refine if_cond (fun hc=> ?_) (fun hc=> ?_)
 ·have hc:i<a.length:=by have hc:=of_decide_eq_true hc;omega
  have hct:=ctS_take cntVal a zVal h1 hc
  have hle:=ctS_take_le cntVal a (i+1).toNat
  have hq:(cntValS a:Int)=ctS cntVal a:=rfl
  rw[drop_step a zVal h1 hc] at hR
  generalize List.getD a i.toNat zVal=x at*
  simp only[mkS,zdd] at hR
  have e:kk+(cntVal x:Int)=kk+1+1+1:=by first|(simp only[cntVal];done)|(simp only[cntVal];omega)
  rw[e] at hR
  simp only[markVal,cntVal] at hR hct
  simp(disch:=omega) only[wrap_i64,bne_int,toList_beq]
  obtain⟨x_K,x_N,x_S⟩:=x
  simp only[DVal.mk.injEq] at*
  repeat' (first|refine And.intro (by omega) ?_|fail)
  refine if_cond (fun h=>Lf_no (fun hh=> ?_)) (fun h=> ?_)
  ·have hh:=hR.2 hh;simp_all
  have h:x_K=kk:=by simpa using h
  subst x_K
  repeat' (first|refine And.intro (by omega) ?_|fail)
  refine if_cond (fun h=>Lf_no (fun hh=> ?_)) (fun h=> ?_)
  ·have hh:=hR.2 hh;simp_all
  have h:x_N=kk+1:=by simpa using h
  subst x_N
  repeat' (first|refine And.intro (by omega) ?_|fail)
  refine if_cond (fun h=>Lf_no (fun hh=> ?_)) (fun h=> ?_)
  ·have hh:=hR.2 hh;simp_all
  have h:x_S=markText (kk+1+1):=by simpa using h
  subst x_S
  exact⟨⟨by omega,by omega,by omega,by simpa using hR⟩,by simp only[Zm128_2];omega⟩
 ·have hc:a.length≤i:=by have hc:=of_decide_eq_false hc;omega
  rw[drop_end a hc] at hR
  exact Lf_yes (hR.1 rfl) (by rw[hkk,ct_done _ _ hc];rfl)
def Zh128:HH:=⟨_,Zo128⟩
def Zk16:Con UU where
 α:=DFact×Int
 md:=[.ro,.ro]
 of:=oC (oA .lFact) (o1 oI)
 ds:=fun x=>[dA .lFact x.1,dI x.2]
 pre:=fun(a,left)=>[0≤left]
 res:=fun(a,left)=>⟨[.one (.lit (.int .i64 (szr left (sizeFact a))))],true,[]⟩
 law:=lC (lA .lFact) (l1 lI)
def Za16:Zk16.α→Nat→Option (Ann UU):=fun(a,left)=>annL []
def Zu16:=us [Zh57]
theorem Zv16(a:DFact)(left:Int):goal EE Zu16 Go.Proofs.Tryz.f16 Zk16 Za16 (a,left)=(let x0:Int:=IntKind.wrap IntKind.i64 (left-(↑(ByteArray.size a.Kind):Int));
bif decide (x0<(0:Int)) then Lf [DV.one (Cell.lit (Value.int IntKind.i64 (-1:Int)))] [DV.one (Cell.lit (Value.int IntKind.i64 (szr left (sizeFact a))))] else(0:Int)≤x0∧bif decide (szr x0 (sizeValS a.Fields)<(0:Int)) then Lf [DV.one (Cell.lit (Value.int IntKind.i64 (-1:Int)))] [DV.one (Cell.lit (Value.int IntKind.i64 (szr left (sizeFact a))))] else Lf [DV.one (Cell.lit (Value.int IntKind.i64 (szr x0 (sizeValS a.Fields))))] [DV.one (Cell.lit (Value.int IntKind.i64 (szr left (sizeFact a))))]):=by kernel_rfl
theorem Zo16:Holds EE (16,Zk16):=by
 refine holds_of EE_ok Go.Proofs.Tryz.func16 Zk16 (by kernel_rfl) Zu16 (us_ok _) Za16 (fun x hp hb=> ?_)
 obtain⟨a,left⟩:=x
 have hz0:=bd_lFact (x:=a) (hb _ m0)
 have hl_a_Kind:=hz0.1
 have hl_a_Fields:=hz0.2
 have hl_left:=bdI (n:=left) (hb _ m1)
 have hp0:0≤left:=hp _ m0
 clear hp hb
 rw[Zv16 a left]
 dsimp only
 rw[wrap_i64 (by omega) (by omega)]
 refine if_cond (fun h=>Lf_i (szr_bad' ?_)) (fun h=> ?_)
 ·have h:=of_decide_eq_true h;simp only[sizeFact];omega
 have h0:=of_decide_eq_false h
 refine⟨by omega,if_cond (fun h=>Lf_i (szr_bad' ?_)) (fun h=> ?_)⟩
 ·have h:=szr_neg h;simp only[sizeFact];omega
 obtain⟨e1,h1⟩:=szr_pos h
 rw[e1]
 exact Lf_i (by rw[←szr_ok' (by simp only[sizeFact];omega)];simp only[sizeFact];try omega)
def Zh16:HH:=⟨_,Zo16⟩
def Zk18:Con UU where
 α:=DFact
 md:=[.ro]
 of:=o1 (oA .lFact)
 ds:=fun x=>[dA .lFact x]
 pre:=fun a=>[sizeFact a≤4294967296]
 res:=fun a=>⟨[.agg [.lit (.string a.Kind),.sl .eVal a.Fields]],true,[]⟩
 law:=l1 (lA .lFact)
def Za18:Zk18.α→Nat→Option (Ann UU):=fun a=>annL []
def Zu18:=us [Zh60]
theorem Zv18(a:DFact):goal EE Zu18 Go.Proofs.Tryz.f18 Zk18 Za18 a=(sizeValS a.Fields≤(4294967296:Nat)∧Lf [DV.agg [Cell.lit (Value.string a.Kind),Cell.sl Cd.eVal a.Fields]] [DV.agg [Cell.lit (Value.string a.Kind),Cell.sl Cd.eVal a.Fields]]):=by kernel_rfl
theorem Zo18:Holds EE (18,Zk18):=by
 refine holds_of EE_ok Go.Proofs.Tryz.func18 Zk18 (by kernel_rfl) Zu18 (us_ok _) Za18 (fun(a:DFact) hp hb=> ?_)
 have hz0:=bd_lFact (x:=a) (hb _ m0)
 have hl_a_Kind:=hz0.1
 have hl_a_Fields:=hz0.2
 have hp0:sizeFact a≤4294967296:=hp _ m0
 clear hp hb
 rw[Zv18 a]
 simp only[sizeFact] at hp0
 repeat' (first|exact Lf_rfl _|(refine And.intro (by omega) ?_))
def Zh18:HH:=⟨_,Zo18⟩
def Zk20:Con UU where
 α:=DFact×DFact
 md:=[.ro,.ro]
 of:=oC (oA .eFact) (o1 (oA .eFact))
 ds:=fun x=>[dA .eFact x.1,dA .eFact x.2]
 pre:=fun _=>[]
 res:=fun(a,b)=>⟨[.one (.lit (.bool (decide (a=b))))],true,[]⟩
 law:=lC (lA .eFact) (l1 (lA .eFact))
def Za20:Zk20.α→Nat→Option (Ann UU):=fun(a,b)=>annL []
def Zu20:=us [Zh63]
theorem Zv20(a:DFact)(b:DFact):goal EE Zu20 Go.Proofs.Tryz.f20 Zk20 Za20 (a,b)=(bif !ByteArray.toList a.Kind==ByteArray.toList b.Kind then Lb false (decide (a=b)) else bif !decide (a.Fields=b.Fields) then Lb false (decide (a=b)) else Lb true (decide (a=b))):=by kernel_rfl
theorem Zo20:Holds EE (20,Zk20):=by
 refine holds_of EE_ok Go.Proofs.Tryz.func20 Zk20 (by kernel_rfl) Zu20 (us_ok _) Za20 (fun x hp hb=> ?_)
 obtain⟨a,b⟩:=x
 have hz0:=bd_eFact (x:=a) (hb _ m0)
 have hl_a_Kind:=hz0.1
 have hl_a_Fields:=hz0.2
 have hz1:=bd_eFact (x:=b) (hb _ m1)
 have hl_b_Kind:=hz1.1
 have hl_b_Fields:=hz1.2
 clear hp hb
 rw[Zv20 a b]
 obtain⟨aKind,aFields⟩:=a
 obtain⟨bKind,bFields⟩:=b
 repeat' (apply if_cond<;>intro _)
 all_goals (first|apply Lf_t|apply Lf_f)<;>simp_all
def Zh20:HH:=⟨_,Zo20⟩
def Zk21:Con UU where
 α:=DFact×Int
 md:=[.wr,.ro]
 of:=oC (oA .eFact) (o1 oI)
 ds:=fun x=>[dA .eFact x.1,dI x.2]
 pre:=fun(a,k)=>[0≤k,k+ctFact a≤4611686018427387904]
 res:=fun(a,k)=>⟨[.one (.lit (.int .i64 (k+ctFact a)))],true,[.agg [.lit (.string ((mkFact a k)).Kind),.sl .eVal ((mkFact a k)).Fields]]⟩
 law:=lC (lA .eFact) (l1 lI)
def Za21:Zk21.α→Nat→Option (Ann UU):=fun(a,k)=>annL []
def Zu21:=us [Zh64]
theorem Zv21(a:DFact)(k:Int):goal EE Zu21 Go.Proofs.Tryz.f21 Zk21 Za21 (a,k)=((0:Int)≤k∧k+(↑(cntValS a.Fields):Int)≤(4611686018427387904:Int)∧asD [DV.one (Cell.lit (Value.int IntKind.i64 (k+(↑(cntValS a.Fields):Int))))]=asD [DV.one (Cell.lit (Value.int IntKind.i64 (k+(↑(ctFact a):Int))))]∧asD [DV.agg [Cell.lit (Value.string a.Kind),Cell.sl Cd.eVal (markValS a.Fields k)]]=asD [DV.agg [Cell.lit (Value.string (mkFact a k).Kind),Cell.sl Cd.eVal (mkFact a k).Fields]]):=by kernel_rfl
theorem Zo21:Holds EE (21,Zk21):=by
 refine holds_of EE_ok Go.Proofs.Tryz.func21 Zk21 (by kernel_rfl) Zu21 (us_ok _) Za21 (fun x hp hb=> ?_)
 obtain⟨a,k⟩:=x
 have hz0:=bd_eFact (x:=a) (hb _ m0)
 have hl_a_Kind:=hz0.1
 have hl_a_Fields:=hz0.2
 have hl_k:=bdI (n:=k) (hb _ m1)
 have hp0:0≤k:=hp _ m0
 have hp1:k+ctFact a≤4611686018427387904:=hp _ m1
 clear hp hb
 rw[Zv21 a k]
 simp only[ctFact] at hp1
 repeat' (first|refine And.intro (by omega) ?_|fail)
 exact⟨by simp only[ctFact,Int.natCast_add,Int.add_assoc],rfl⟩
def Zh21:HH:=⟨_,Zo21⟩
def Zk69:Con UU where
 α:=DTimer×Int
 md:=[.ro,.ro]
 of:=oC (oA .lTimer) (o1 oI)
 ds:=fun x=>[dA .lTimer x.1,dI x.2]
 pre:=fun(a,left)=>[0≤left]
 res:=fun(a,left)=>⟨[.one (.lit (.int .i64 (szr left (sizeTimer a))))],true,[]⟩
 law:=lC (lA .lTimer) (l1 lI)
def Za69:Zk69.α→Nat→Option (Ann UU):=fun(a,left)=>annL []
def Zu69:=us [Zh16]
theorem Zv69(a:DTimer)(left:Int):goal EE Zu69 Go.Proofs.Tryz.f69 Zk69 Za69 (a,left)=((0:Int)≤left∧bif decide (szr left (sizeFact a.F)<(0:Int)) then Li (-1:Int) (szr left (sizeTimer a)) else Li (szr left (sizeFact a.F)) (szr left (sizeTimer a))):=by kernel_rfl
theorem Zo69:Holds EE (69,Zk69):=by
 refine holds_of EE_ok Go.Proofs.Tryz.func69 Zk69 (by kernel_rfl) Zu69 (us_ok _) Za69 (fun x hp hb=> ?_)
 obtain⟨a,left⟩:=x
 have hz0:=bd_lTimer (x:=a) (hb _ m0)
 have hl_a_F_Kind:=hz0.1
 have hl_a_F_Fields:=hz0.2
 have hl_left:=bdI (n:=left) (hb _ m1)
 have hp0:0≤left:=hp _ m0
 clear hp hb
 rw[Zv69 a left]
 refine⟨by omega,if_cond (fun h=>Lf_i (szr_bad' ?_)) (fun h=> ?_)⟩
 ·have h:=szr_neg h;simp only[sizeTimer];omega
 obtain⟨e0,h0⟩:=szr_pos h
 rw[e0]
 exact Lf_i (by rw[←szr_ok' (by simp only[sizeTimer];omega)];simp only[sizeTimer];try omega)
def Zh69:HH:=⟨_,Zo69⟩
def Zk92:Con UU where
 α:=DTimer
 md:=[.ro]
 of:=o1 (oA .lTimer)
 ds:=fun x=>[dA .lTimer x]
 pre:=fun a=>[sizeTimer a≤4294967296]
 res:=fun a=>⟨[.agg [.lit (.int .i64 a.At),.lit (.string a.F.Kind),.sl .eVal a.F.Fields]],true,[]⟩
 law:=l1 (lA .lTimer)
def Za92:Zk92.α→Nat→Option (Ann UU):=fun a=>annL []
def Zu92:=us [Zh18]
theorem Zv92(a:DTimer):goal EE Zu92 Go.Proofs.Tryz.f92 Zk92 Za92 a=(sizeFact a.F≤(4294967296:Nat)∧Lf [DV.agg [Cell.lit (Value.int IntKind.i64 a.At),Cell.lit (Value.string a.F.Kind),Cell.sl Cd.eVal a.F.Fields]] [DV.agg [Cell.lit (Value.int IntKind.i64 a.At),Cell.lit (Value.string a.F.Kind),Cell.sl Cd.eVal a.F.Fields]]):=by kernel_rfl
theorem Zo92:Holds EE (92,Zk92):=by
 refine holds_of EE_ok Go.Proofs.Tryz.func92 Zk92 (by kernel_rfl) Zu92 (us_ok _) Za92 (fun(a:DTimer) hp hb=> ?_)
 have hz0:=bd_lTimer (x:=a) (hb _ m0)
 have hl_a_F_Kind:=hz0.1
 have hl_a_F_Fields:=hz0.2
 have hp0:sizeTimer a≤4294967296:=hp _ m0
 clear hp hb
 rw[Zv92 a]
 simp only[sizeTimer] at hp0
 repeat' (first|exact Lf_rfl _|(refine And.intro (by omega) ?_))
def Zh92:HH:=⟨_,Zo92⟩
def Zk115:Con UU where
 α:=DTimer×DTimer
 md:=[.ro,.ro]
 of:=oC (oA .eTimer) (o1 (oA .eTimer))
 ds:=fun x=>[dA .eTimer x.1,dA .eTimer x.2]
 pre:=fun _=>[]
 res:=fun(a,b)=>⟨[.one (.lit (.bool (decide (a=b))))],true,[]⟩
 law:=lC (lA .eTimer) (l1 (lA .eTimer))
def Za115:Zk115.α→Nat→Option (Ann UU):=fun(a,b)=>annL []
def Zu115:=us [Zh20]
theorem Zv115(a:DTimer)(b:DTimer):goal EE Zu115 Go.Proofs.Tryz.f115 Zk115 Za115 (a,b)=(bif a.At !=b.At then Lb false (decide (a=b)) else bif !decide (a.F=b.F) then Lb false (decide (a=b)) else Lb true (decide (a=b))):=by kernel_rfl
theorem Zo115:Holds EE (115,Zk115):=by
 refine holds_of EE_ok Go.Proofs.Tryz.func115 Zk115 (by kernel_rfl) Zu115 (us_ok _) Za115 (fun x hp hb=> ?_)
 obtain⟨a,b⟩:=x
 have hz0:=bd_eTimer (x:=a) (hb _ m0)
 have hl_a_F_Kind:=hz0.1
 have hl_a_F_Fields:=hz0.2
 have hz1:=bd_eTimer (x:=b) (hb _ m1)
 have hl_b_F_Kind:=hz1.1
 have hl_b_F_Fields:=hz1.2
 clear hp hb
 rw[Zv115 a b]
 obtain⟨aAt,aF⟩:=a
 obtain⟨bAt,bF⟩:=b
 repeat' (apply if_cond<;>intro _)
 all_goals (first|apply Lf_t|apply Lf_f)<;>simp_all
def Zh115:HH:=⟨_,Zo115⟩
def Zk26:Con UU where
 α:=(List DTimer)×Int
 md:=[.ro,.ro]
 of:=oC (oL .lTimer) (o1 oI)
 ds:=fun x=>[dL .lTimer x.1,dI x.2]
 pre:=fun(a,left)=>[0≤left]
 res:=fun(a,left)=>⟨[.one (.lit (.int .i64 (szr left (sizeTimerS a))))],true,[]⟩
 law:=lC (lL .lTimer) (l1 lI)
def Zi26_5(a:(List DTimer))(left:Int):Int×Int×Unit→Prop:=szI sizeTimer a (sizeTimerS a) left
def Zm26_5(a:(List DTimer))(left:Int):Int×Int×Unit→Nat:=rM2 a
def Za26:Zk26.α→Nat→Option (Ann UU):=fun(a,left)=>annL [(5,annOf [.slot 1 (1,1024) (.lit (.int .i64)),.slot 5 (5,1024) (.lit (.int .i64))] (fun _=>Zi26_5 a left) (Zm26_5 a left))]
def Zu26:=us [Zh69]
theorem Zv26(a:(List DTimer))(left:Int):goal EE Zu26 Go.Proofs.Tryz.f26 Zk26 Za26 (a,left)=(szV sizeTimer zTimer a (sizeTimerS a) left):=by kernel_rfl
theorem Zo26:Holds EE (26,Zk26):=by
 refine holds_of EE_ok Go.Proofs.Tryz.func26 Zk26 (by kernel_rfl) Zu26 (us_ok _) Za26 (fun x hp hb=> ?_)
 obtain⟨a,left⟩:=x
 have hl_a:a.length≤9223372036854775807:=bdL (hb _ m0)
 have hl_left:=bdI (n:=left) (hb _ m1)
 have hp0:0≤left:=hp _ m0
 clear hp hb
 rw[Zv26 a left]
 exact szV_ok rfl hp0 hl_left hl_a
def Zh26:HH:=⟨_,Zo26⟩
def Zk35:Con UU where
 α:=(List DTimer)
 md:=[.ro]
 of:=o1 (oL .lTimer)
 ds:=fun x=>[dL .lTimer x]
 pre:=fun a=>[sizeTimerS a≤4294967296]
 res:=fun a=>⟨[.one (.sl .eTimer a)],true,[]⟩
 law:=l1 (lL .lTimer)
def Zi35_3(a:(List DTimer)):List DTimer×Int×Unit→Prop:=toI zTimer a
def Zm35_3(a:(List DTimer)):List DTimer×Int×Unit→Nat:=rM2 a
def Za35:Zk35.α→Nat→Option (Ann UU):=fun a=>annL [(3,annOf [.slot 3 (3,1024) (.own .eTimer true),.slot 4 (4,1024) (.lit (.int .i64))] (fun _=>Zi35_3 a) (Zm35_3 a))]
def Zu35:=us [Zh92]
theorem Zv35(a:(List DTimer)):goal EE Zu35 Go.Proofs.Tryz.f35 Zk35 Za35 a=(toV sizeTimer zTimer a fun y=>Lf [.one (.sl .eTimer y)] [.one (.sl .eTimer a)]):=by kernel_rfl
theorem Zo35:Holds EE (35,Zk35):=by
 refine holds_of EE_ok Go.Proofs.Tryz.func35 Zk35 (by kernel_rfl) Zu35 (us_ok _) Za35 (fun(a:(List DTimer)) hp hb=> ?_)
 have hl_a:a.length≤9223372036854775807:=bdL (hb _ m0)
 have hp0:sizeTimerS a≤4294967296:=hp _ m0
 clear hp hb
 rw[Zv35 a]
 exact toV_ok hp0 (Lf_rfl _)
def Zh35:HH:=⟨_,Zo35⟩
def Zk43:Con UU where
 α:=(List DTimer)×(List DTimer)
 md:=[.ro,.ro]
 of:=oC (oL .eTimer) (o1 (oL .eTimer))
 ds:=fun x=>[dL .eTimer x.1,dL .eTimer x.2]
 pre:=fun _=>[]
 res:=fun(a,b)=>⟨[.one (.lit (.bool (decide (a=b))))],true,[]⟩
 law:=lC (lL .eTimer) (l1 (lL .eTimer))
def Zi43_4(a:(List DTimer))(b:(List DTimer)):Int×Unit→Prop:=eqI a b
def Zm43_4(a:(List DTimer))(b:(List DTimer)):Int×Unit→Nat:=rM1 a
def Za43:Zk43.α→Nat→Option (Ann UU):=fun(a,b)=>annL [(4,annOf [.slot 5 (5,1024) (.lit (.int .i64))] (fun _=>Zi43_4 a b) (Zm43_4 a b))]
def Zu43:=us [Zh115]
theorem Zv43(a:(List DTimer))(b:(List DTimer)):goal EE Zu43 Go.Proofs.Tryz.f43 Zk43 Za43 (a,b)=(eqV zTimer a b):=by kernel_rfl
theorem Zo43:Holds EE (43,Zk43):=by
 refine holds_of EE_ok Go.Proofs.Tryz.func43 Zk43 (by kernel_rfl) Zu43 (us_ok _) Za43 (fun x hp hb=> ?_)
 obtain⟨a,b⟩:=x
 have hl_a:a.length≤9223372036854775807:=bdL (hb _ m0)
 have hl_b:b.length≤9223372036854775807:=bdL (hb _ m1)
 clear hp hb
 rw[Zv43 a b]
 exact eqV_ok hl_a
def Zh43:HH:=⟨_,Zo43⟩
def Zk50:Con UU where
 α:=(List DTimer)×Int
 md:=[.wr,.ro]
 of:=oC (oL .eTimer) (o1 oI)
 ds:=fun x=>[dL .eTimer x.1,dI x.2]
 pre:=fun(a,k)=>[0≤k,k+cntTimerS a≤4611686018427387904]
 res:=fun(a,k)=>⟨[.one (.lit (.int .i64 (k+cntTimerS a)))],true,[.one (.sl .eTimer (markTimerS a k))]⟩
 law:=lC (lL .eTimer) (l1 lI)
def Zi50_2(a:(List DTimer))(k:Int):List DTimer×Int×Int×Unit→Prop:=fun(row,kk,i,_)=>0≤i∧i≤a.length∧row=(mkS markTimer cntTimer a k).take i.toNat++a.drop i.toNat∧kk=k+ctS cntTimer (a.take i.toNat)
def Zm50_2(a:(List DTimer))(k:Int):List DTimer×Int×Int×Unit→Nat:=fun(row,kk,i,_)=>a.length-i.toNat
def Za50:Zk50.α→Nat→Option (Ann UU):=fun(a,k)=>annL [(2,annOf [.slot 0 (2000000,0) (.own .eTimer true),.slot 1 (1,1024) (.lit (.int .i64)),.slot 5 (5,1024) (.lit (.int .i64))] (fun _=>Zi50_2 a k) (Zm50_2 a k))]
def Zu50:=us [Zh118,Zh64]
theorem Zv50(a:(List DTimer))(k:Int):goal EE Zu50 Go.Proofs.Tryz.f50 Zk50 Za50 (a,k)=(Zi50_2 a k (a,k,(0:Int),())∧
 ∀(y:List DTimer×Int×Int×PUnit),
  let x1:Nat:=Int.toNat y.2.2.1;
  let x3:Int:=IntKind.wrap IntKind.i64 (y.2.1+(1:Int));
  let x4:List DTimer:=List.modify y.1 x1 fun(x:DTimer)=>{At:=y.2.1,F:=x.F:DTimer};
  let x0:List DTimer:=List.modify x4 x1 fun(x:DTimer)=>{At:=x.At,F:={Kind:=markText x3,Fields:=x.F.Fields:DFact}:DTimer};
  let x2:Int:=IntKind.wrap IntKind.i64 (x3+(1:Int));
  let x5:Int:=x2+(↑(cntValS (List.getD x0 x1 zTimer).F.Fields):Int);
  Zi50_2 a k y→bif decide (y.2.2.1<(↑(List.length y.1):Int)) then(0:Int)≤y.2.2.1∧x1<List.length y.1∧x1<List.length y.1∧x3≤(4611686018427387903:Int)∧(0:Int)≤y.2.2.1∧x1<List.length x4∧x1<List.length x4∧(0:Int)≤y.2.2.1∧x1<List.length x0∧x1<List.length x0∧x1<List.length x0∧(0:Int)≤x2∧x5≤(4611686018427387904:Int)∧Zi50_2 a k (List.modify x0 x1 fun(x:DTimer)=>{At:=x.At,F:={Kind:=x.F.Kind,Fields:=markValS (List.getD x0 x1 zTimer).F.Fields x2:DFact}:DTimer},x5,IntKind.wrap IntKind.i64 (y.2.2.1+(1:Int)),PUnit.unit)∧Zm50_2 a k (List.modify x0 x1 fun(x:DTimer)=>{At:=x.At,F:={Kind:=x.F.Kind,Fields:=markValS (List.getD x0 x1 zTimer).F.Fields x2:DFact}:DTimer},x5,IntKind.wrap IntKind.i64 (y.2.2.1+(1:Int)),PUnit.unit)<Zm50_2 a k y else asD [DV.one (Cell.lit (Value.int IntKind.i64 y.2.1))]=asD [DV.one (Cell.lit (Value.int IntKind.i64 (k+(↑(cntTimerS a):Int))))]∧asD [DV.one (Cell.sl Cd.eTimer y.1)]=asD [DV.one (Cell.sl Cd.eTimer (markTimerS a k))]):=by kernel_rfl
theorem Zo50:Holds EE (50,Zk50):=by
 refine holds_of EE_ok Go.Proofs.Tryz.func50 Zk50 (by kernel_rfl) Zu50 (us_ok _) Za50 (fun x hp hb=> ?_)
 obtain⟨a,k⟩:=x
 have hl_a:a.length≤9223372036854775807:=bdL (hb _ m0)
 have hl_k:=bdI (n:=k) (hb _ m1)
 have hp0:0≤k:=hp _ m0
 have hp1:k+cntTimerS a≤4611686018427387904:=hp _ m1
 clear hp hb
 rw[Zv50 a k]
 dsimp only
 refine⟨⟨by omega,by omega,by simp,by simp[ctS]⟩,?_⟩
 rintro⟨row,kk,i,⟨⟩⟩ ⟨h1,h2,rfl,rfl⟩
 simp only
 have hl:=mk_rl markTimer cntTimer a k h1 h2
 refine if_cond (fun hc=> ?_) (fun hc=> ?_)
 ·have hc:i<a.length:=by have hc:=of_decide_eq_true hc;omega
  have hct:=ctS_take cntTimer a zTimer h1 hc
  have hle:=ctS_take_le cntTimer a (i+1).toNat
  have hg:=mk_getD _ a zTimer (mk_tl markTimer cntTimer a k h1 h2) h1 hc
  have hM:=fun F hF=>mkS_mod markTimer cntTimer a zTimer k (i:=i) F h1 hc hF
  have hq:(cntTimerS a:Int)=ctS cntTimer a:=rfl
  generalize List.getD a i.toNat zTimer=x at*
  generalize hkk:k+(ctS cntTimer (a.take i.toNat):Int)=kk at*
  generalize List.take i.toNat (mkS markTimer cntTimer a k)++List.drop i.toNat a=R at*
  simp only[cntTimer] at hct
  simp(disch:=first|omega|(simp only[zbf];omega)) only[zbf,wrap_i64,getD_modify,modify_modify,hg,hl]
  repeat' (first|refine And.intro (by omega) ?_|fail)
  exact⟨⟨by omega,by omega,hM _ (by first|rfl|(simp only[markTimer,markBool];rw[zbp (by omega)];rfl)),by omega⟩,by simp only[Zm50_2];omega⟩
 ·have hc:a.length≤i:=by have hc:=of_decide_eq_false hc;omega
  rw[mk_done markTimer cntTimer a k hc,ct_done cntTimer a hc]
  exact⟨rfl,rfl⟩
def Zh50:HH:=⟨_,Zo50⟩
def Zk55:Con UU where
 α:=(List DTimer)×Int
 md:=[.ro,.ro]
 of:=oC (oL .eTimer) (o1 oI)
 ds:=fun x=>[dL .eTimer x.1,dI x.2]
 pre:=fun(a,k)=>[0≤k,k+cntTimerS a≤4611686018427387904]
 res:=fun(a,k)=>⟨[.one (.lit (.int .i64 (if markTimerS a k=a then k+cntTimerS a else-1)))],true,[]⟩
 law:=lC (lL .eTimer) (l1 lI)
def Zi55_2(a:(List DTimer))(k:Int):Int×Int×Unit→Prop:=fun(kk,i,_)=>0≤i∧i≤a.length∧kk=k+ctS cntTimer (a.take i.toNat)∧(mkS markTimer cntTimer (a.drop i.toNat) kk=a.drop i.toNat↔mkS markTimer cntTimer a k=a)
def Zm55_2(a:(List DTimer))(k:Int):Int×Int×Unit→Nat:=fun(kk,i,_)=>a.length-i.toNat
def Za55:Zk55.α→Nat→Option (Ann UU):=fun(a,k)=>annL [(2,annOf [.slot 1 (1,1024) (.lit (.int .i64)),.slot 5 (5,1024) (.lit (.int .i64))] (fun _=>Zi55_2 a k) (Zm55_2 a k))]
def Zu55:=us [Zh118,Zh128]
theorem Zv55(a:(List DTimer))(k:Int):goal EE Zu55 Go.Proofs.Tryz.f55 Zk55 Za55 (a,k)=(Zi55_2 a k (k,(0:Int),())∧
 ∀(y:Int×Int×PUnit),
  let x4:Nat:=Int.toNat y.2.1;
  let x6:Int:=IntKind.wrap IntKind.i64 (y.1+(1:Int));
  let x3:DTimer:=List.getD a x4 zTimer;
  let x5:Int:=IntKind.wrap IntKind.i64 (x6+(1:Int));
  let x2:DFact:=x3.F;
  let x1:List DVal:=x2.Fields;
  let x0:Int:=if markValS x1 x5=x1 then x5+(↑(cntValS x1):Int) else(-1:Int);
  Zi55_2 a k y→bif decide (y.2.1<(↑(List.length a):Int)) then(0:Int)≤y.2.1∧x4<List.length a∧bif x3.At !=y.1 then Lf [DV.one (Cell.lit (Value.int IntKind.i64 (-1:Int)))] [DV.one (Cell.lit (Value.int IntKind.i64 (if markTimerS a k=a then k+(↑(cntTimerS a):Int) else(-1:Int))))] else(0:Int)≤y.2.1∧x4<List.length a∧x6≤(4611686018427387903:Int)∧bif !ByteArray.toList x2.Kind==ByteArray.toList (markText x6) then Lf [DV.one (Cell.lit (Value.int IntKind.i64 (-1:Int)))] [DV.one (Cell.lit (Value.int IntKind.i64 (if markTimerS a k=a then k+(↑(cntTimerS a):Int) else(-1:Int))))] else(0:Int)≤y.2.1∧x4<List.length a∧(0:Int)≤x5∧x5+(↑(cntValS x1):Int)≤(4611686018427387904:Int)∧bif decide (x0<(0:Int)) then Lf [DV.one (Cell.lit (Value.int IntKind.i64 (-1:Int)))] [DV.one (Cell.lit (Value.int IntKind.i64 (if markTimerS a k=a then k+(↑(cntTimerS a):Int) else(-1:Int))))] else Zi55_2 a k (x0,IntKind.wrap IntKind.i64 (y.2.1+(1:Int)),PUnit.unit)∧Zm55_2 a k (x0,IntKind.wrap IntKind.i64 (y.2.1+(1:Int)),PUnit.unit)<Zm55_2 a k y else Lf [DV.one (Cell.lit (Value.int IntKind.i64 y.1))] [DV.one (Cell.lit (Value.int IntKind.i64 (if markTimerS a k=a then k+(↑(cntTimerS a):Int) else(-1:Int))))]):=by kernel_rfl
theorem Zo55:Holds EE (55,Zk55):=by
 refine holds_of EE_ok Go.Proofs.Tryz.func55 Zk55 (by kernel_rfl) Zu55 (us_ok _) Za55 (fun x hp hb=> ?_)
 obtain⟨a,k⟩:=x
 have hl_a:a.length≤9223372036854775807:=bdL (hb _ m0)
 have hl_k:=bdI (n:=k) (hb _ m1)
 have hp0:0≤k:=hp _ m0
 have hp1:k+cntTimerS a≤4611686018427387904:=hp _ m1
 clear hp hb
 rw[Zv55 a k]
 dsimp only
 refine⟨⟨by omega,by omega,by simp[ctS],by simp⟩,?_⟩
 rintro⟨kk,i,⟨⟩⟩ ⟨h1,h2,hkk,hR⟩
 simp only
 simp only[markTimerS]
 refine if_cond (fun hc=> ?_) (fun hc=> ?_)
 ·have hc:i<a.length:=by have hc:=of_decide_eq_true hc;omega
  have hct:=ctS_take cntTimer a zTimer h1 hc
  have hle:=ctS_take_le cntTimer a (i+1).toNat
  have hq:(cntTimerS a:Int)=ctS cntTimer a:=rfl
  rw[drop_step a zTimer h1 hc] at hR
  generalize List.getD a i.toNat zTimer=x at*
  simp only[mkS,zdd] at hR
  have e:kk+(cntTimer x:Int)=kk+1+1+(cntValS x.F.Fields:Int):=by first|(simp only[cntTimer];done)|(simp only[cntTimer];omega)
  rw[e] at hR
  simp only[markTimer,cntTimer] at hR hct
  simp(disch:=omega) only[wrap_i64,bne_int,toList_beq]
  obtain⟨x_At,⟨x_F_Kind,x_F_Fields⟩⟩:=x
  simp only[DFact.mk.injEq,DTimer.mk.injEq] at*
  repeat' (first|refine And.intro (by omega) ?_|fail)
  refine if_cond (fun h=>Lf_no (fun hh=> ?_)) (fun h=> ?_)
  ·have hh:=hR.2 hh;simp_all
  have h:x_At=kk:=by simpa using h
  subst x_At
  repeat' (first|refine And.intro (by omega) ?_|fail)
  refine if_cond (fun h=>Lf_no (fun hh=> ?_)) (fun h=> ?_)
  ·have hh:=hR.2 hh;simp_all
  have h:x_F_Kind=markText (kk+1):=by simpa using h
  subst x_F_Kind
  repeat' (first|refine And.intro (by omega) ?_|fail)
  by_cases hm:markValS x_F_Fields (kk+1+1)=x_F_Fields
  rotate_left
  ·simp only[if_neg hm];rw[cond_yes (by decide)]
   exact Lf_no (fun hh=>hm (by have hh:=hR.2 hh;simp_all))
  simp only[if_pos hm]
  refine if_cond (fun h=>absurd (of_decide_eq_true h) (by omega)) (fun h=> ?_)
  simp only[hm] at hR
  clear hm
  exact⟨⟨by omega,by omega,by omega,by simpa using hR⟩,by simp only[Zm55_2];omega⟩
 ·have hc:a.length≤i:=by have hc:=of_decide_eq_false hc;omega
  rw[drop_end a hc] at hR
  exact Lf_yes (hR.1 rfl) (by rw[hkk,ct_done _ _ hc];rfl)
def Zh55:HH:=⟨_,Zo55⟩
def Zk68:Con UU where
 α:=DTask×Int
 md:=[.ro,.ro]
 of:=oC (oA .lTask) (o1 oI)
 ds:=fun x=>[dA .lTask x.1,dI x.2]
 pre:=fun(a,left)=>[0≤left]
 res:=fun(a,left)=>⟨[.one (.lit (.int .i64 (szr left (sizeTask a))))],true,[]⟩
 law:=lC (lA .lTask) (l1 lI)
def Za68:Zk68.α→Nat→Option (Ann UU):=fun(a,left)=>annL []
def Zu68:=us [Zh16,Zh129]
theorem Zv68(a:DTask)(left:Int):goal EE Zu68 Go.Proofs.Tryz.f68 Zk68 Za68 (a,left)=(let x0:Int:=IntKind.wrap IntKind.i64 (szr left (sizeFact a.F)-(↑(ByteArray.size a.Undo):Int));
(0:Int)≤left∧bif decide (szr left (sizeFact a.F)<(0:Int)) then Lf [DV.one (Cell.lit (Value.int IntKind.i64 (-1:Int)))] [DV.one (Cell.lit (Value.int IntKind.i64 (szr left (sizeTask a))))] else bif decide (x0<(0:Int)) then Lf [DV.one (Cell.lit (Value.int IntKind.i64 (-1:Int)))] [DV.one (Cell.lit (Value.int IntKind.i64 (szr left (sizeTask a))))] else(0:Int)≤x0∧bif decide (szr x0 (sizeVal a.V)<(0:Int)) then Lf [DV.one (Cell.lit (Value.int IntKind.i64 (-1:Int)))] [DV.one (Cell.lit (Value.int IntKind.i64 (szr left (sizeTask a))))] else Lf [DV.one (Cell.lit (Value.int IntKind.i64 (szr x0 (sizeVal a.V))))] [DV.one (Cell.lit (Value.int IntKind.i64 (szr left (sizeTask a))))]):=by kernel_rfl
theorem Zo68:Holds EE (68,Zk68):=by
 refine holds_of EE_ok Go.Proofs.Tryz.func68 Zk68 (by kernel_rfl) Zu68 (us_ok _) Za68 (fun x hp hb=> ?_)
 obtain⟨a,left⟩:=x
 have hz0:=bd_lTask (x:=a) (hb _ m0)
 have hl_a_F_Kind:=hz0.1
 have hl_a_F_Fields:=hz0.2.1
 have hl_a_Undo:=hz0.2.2.1
 have hl_a_V_S:=hz0.2.2.2
 have hl_left:=bdI (n:=left) (hb _ m1)
 have hp0:0≤left:=hp _ m0
 clear hp hb
 rw[Zv68 a left]
 dsimp only
 refine⟨by omega,if_cond (fun h=>Lf_i (szr_bad' ?_)) (fun h=> ?_)⟩
 ·have h:=szr_neg h;simp only[sizeTask];omega
 obtain⟨e0,h0⟩:=szr_pos h
 rw[e0]
 rw[wrap_i64 (by omega) (by omega)]
 refine if_cond (fun h=>Lf_i (szr_bad' ?_)) (fun h=> ?_)
 ·have h:=of_decide_eq_true h;simp only[sizeTask];omega
 have h1:=of_decide_eq_false h
 refine⟨by omega,if_cond (fun h=>Lf_i (szr_bad' ?_)) (fun h=> ?_)⟩
 ·have h:=szr_neg h;simp only[sizeTask];omega
 obtain⟨e2,h2⟩:=szr_pos h
 rw[e2]
 exact Lf_i (by rw[←szr_ok' (by simp only[sizeTask];omega)];simp only[sizeTask];try omega)
def Zh68:HH:=⟨_,Zo68⟩
def Zk91:Con UU where
 α:=DTask
 md:=[.ro]
 of:=o1 (oA .lTask)
 ds:=fun x=>[dA .lTask x]
 pre:=fun a=>[sizeTask a≤4294967296]
 res:=fun a=>⟨[.agg [.lit (.string a.F.Kind),.sl .eVal a.F.Fields,.lit (.string a.Undo),.lit (.int .i64 a.State),.lit (.int .i64 a.Tries),.lit (.int .i64 a.Due),.lit (.int .i64 a.V.K),.lit (.int .i64 a.V.N),.lit (.string a.V.S)]],true,[]⟩
 law:=l1 (lA .lTask)
def Za91:Zk91.α→Nat→Option (Ann UU):=fun a=>annL []
def Zu91:=us [Zh18,Zh133]
theorem Zv91(a:DTask):goal EE Zu91 Go.Proofs.Tryz.f91 Zk91 Za91 a=(sizeFact a.F≤(4294967296:Nat)∧sizeVal a.V≤(4294967296:Nat)∧Lf [DV.agg [Cell.lit (Value.string a.F.Kind),Cell.sl Cd.eVal a.F.Fields,Cell.lit (Value.string a.Undo),Cell.lit (Value.int IntKind.i64 a.State),Cell.lit (Value.int IntKind.i64 a.Tries),Cell.lit (Value.int IntKind.i64 a.Due),Cell.lit (Value.int IntKind.i64 a.V.K),Cell.lit (Value.int IntKind.i64 a.V.N),Cell.lit (Value.string a.V.S)]] [DV.agg [Cell.lit (Value.string a.F.Kind),Cell.sl Cd.eVal a.F.Fields,Cell.lit (Value.string a.Undo),Cell.lit (Value.int IntKind.i64 a.State),Cell.lit (Value.int IntKind.i64 a.Tries),Cell.lit (Value.int IntKind.i64 a.Due),Cell.lit (Value.int IntKind.i64 a.V.K),Cell.lit (Value.int IntKind.i64 a.V.N),Cell.lit (Value.string a.V.S)]]):=by kernel_rfl
theorem Zo91:Holds EE (91,Zk91):=by
 refine holds_of EE_ok Go.Proofs.Tryz.func91 Zk91 (by kernel_rfl) Zu91 (us_ok _) Za91 (fun(a:DTask) hp hb=> ?_)
 have hz0:=bd_lTask (x:=a) (hb _ m0)
 have hl_a_F_Kind:=hz0.1
 have hl_a_F_Fields:=hz0.2.1
 have hl_a_Undo:=hz0.2.2.1
 have hl_a_V_S:=hz0.2.2.2
 have hp0:sizeTask a≤4294967296:=hp _ m0
 clear hp hb
 rw[Zv91 a]
 simp only[sizeTask] at hp0
 repeat' (first|exact Lf_rfl _|(refine And.intro (by omega) ?_))
def Zh91:HH:=⟨_,Zo91⟩
def Zk114:Con UU where
 α:=DTask×DTask
 md:=[.ro,.ro]
 of:=oC (oA .eTask) (o1 (oA .eTask))
 ds:=fun x=>[dA .eTask x.1,dA .eTask x.2]
 pre:=fun _=>[]
 res:=fun(a,b)=>⟨[.one (.lit (.bool (decide (a=b))))],true,[]⟩
 law:=lC (lA .eTask) (l1 (lA .eTask))
def Za114:Zk114.α→Nat→Option (Ann UU):=fun(a,b)=>annL []
def Zu114:=us [Zh20,Zh138]
theorem Zv114(a:DTask)(b:DTask):goal EE Zu114 Go.Proofs.Tryz.f114 Zk114 Za114 (a,b)=(bif !decide (a.F=b.F) then Lb false (decide (a=b)) else bif !ByteArray.toList a.Undo==ByteArray.toList b.Undo then Lb false (decide (a=b)) else bif a.State !=b.State then Lb false (decide (a=b)) else bif a.Tries !=b.Tries then Lb false (decide (a=b)) else bif a.Due !=b.Due then Lb false (decide (a=b)) else bif !decide (a.V=b.V) then Lb false (decide (a=b)) else Lb true (decide (a=b))):=by kernel_rfl
theorem Zo114:Holds EE (114,Zk114):=by
 refine holds_of EE_ok Go.Proofs.Tryz.func114 Zk114 (by kernel_rfl) Zu114 (us_ok _) Za114 (fun x hp hb=> ?_)
 obtain⟨a,b⟩:=x
 have hz0:=bd_eTask (x:=a) (hb _ m0)
 have hl_a_F_Kind:=hz0.1
 have hl_a_F_Fields:=hz0.2.1
 have hl_a_Undo:=hz0.2.2.1
 have hl_a_V_S:=hz0.2.2.2
 have hz1:=bd_eTask (x:=b) (hb _ m1)
 have hl_b_F_Kind:=hz1.1
 have hl_b_F_Fields:=hz1.2.1
 have hl_b_Undo:=hz1.2.2.1
 have hl_b_V_S:=hz1.2.2.2
 clear hp hb
 rw[Zv114 a b]
 obtain⟨aF,aUndo,aState,aTries,aDue,aV⟩:=a
 obtain⟨bF,bUndo,bState,bTries,bDue,bV⟩:=b
 repeat' (apply if_cond<;>intro _)
 all_goals (first|apply Lf_t|apply Lf_f)<;>simp_all
def Zh114:HH:=⟨_,Zo114⟩
def Zk25:Con UU where
 α:=(List DTask)×Int
 md:=[.ro,.ro]
 of:=oC (oL .lTask) (o1 oI)
 ds:=fun x=>[dL .lTask x.1,dI x.2]
 pre:=fun(a,left)=>[0≤left]
 res:=fun(a,left)=>⟨[.one (.lit (.int .i64 (szr left (sizeTaskS a))))],true,[]⟩
 law:=lC (lL .lTask) (l1 lI)
def Zi25_5(a:(List DTask))(left:Int):Int×Int×Unit→Prop:=szI sizeTask a (sizeTaskS a) left
def Zm25_5(a:(List DTask))(left:Int):Int×Int×Unit→Nat:=rM2 a
def Za25:Zk25.α→Nat→Option (Ann UU):=fun(a,left)=>annL [(5,annOf [.slot 1 (1,1024) (.lit (.int .i64)),.slot 5 (5,1024) (.lit (.int .i64))] (fun _=>Zi25_5 a left) (Zm25_5 a left))]
def Zu25:=us [Zh68]
theorem Zv25(a:(List DTask))(left:Int):goal EE Zu25 Go.Proofs.Tryz.f25 Zk25 Za25 (a,left)=(szV sizeTask zTask a (sizeTaskS a) left):=by kernel_rfl
theorem Zo25:Holds EE (25,Zk25):=by
 refine holds_of EE_ok Go.Proofs.Tryz.func25 Zk25 (by kernel_rfl) Zu25 (us_ok _) Za25 (fun x hp hb=> ?_)
 obtain⟨a,left⟩:=x
 have hl_a:a.length≤9223372036854775807:=bdL (hb _ m0)
 have hl_left:=bdI (n:=left) (hb _ m1)
 have hp0:0≤left:=hp _ m0
 clear hp hb
 rw[Zv25 a left]
 exact szV_ok rfl hp0 hl_left hl_a
def Zh25:HH:=⟨_,Zo25⟩
def Zk34:Con UU where
 α:=(List DTask)
 md:=[.ro]
 of:=o1 (oL .lTask)
 ds:=fun x=>[dL .lTask x]
 pre:=fun a=>[sizeTaskS a≤4294967296]
 res:=fun a=>⟨[.one (.sl .eTask a)],true,[]⟩
 law:=l1 (lL .lTask)
def Zi34_3(a:(List DTask)):List DTask×Int×Unit→Prop:=toI zTask a
def Zm34_3(a:(List DTask)):List DTask×Int×Unit→Nat:=rM2 a
def Za34:Zk34.α→Nat→Option (Ann UU):=fun a=>annL [(3,annOf [.slot 3 (3,1024) (.own .eTask true),.slot 4 (4,1024) (.lit (.int .i64))] (fun _=>Zi34_3 a) (Zm34_3 a))]
def Zu34:=us [Zh91]
theorem Zv34(a:(List DTask)):goal EE Zu34 Go.Proofs.Tryz.f34 Zk34 Za34 a=(toV sizeTask zTask a fun y=>Lf [.one (.sl .eTask y)] [.one (.sl .eTask a)]):=by kernel_rfl
theorem Zo34:Holds EE (34,Zk34):=by
 refine holds_of EE_ok Go.Proofs.Tryz.func34 Zk34 (by kernel_rfl) Zu34 (us_ok _) Za34 (fun(a:(List DTask)) hp hb=> ?_)
 have hl_a:a.length≤9223372036854775807:=bdL (hb _ m0)
 have hp0:sizeTaskS a≤4294967296:=hp _ m0
 clear hp hb
 rw[Zv34 a]
 exact toV_ok hp0 (Lf_rfl _)
def Zh34:HH:=⟨_,Zo34⟩
def Zk42:Con UU where
 α:=(List DTask)×(List DTask)
 md:=[.ro,.ro]
 of:=oC (oL .eTask) (o1 (oL .eTask))
 ds:=fun x=>[dL .eTask x.1,dL .eTask x.2]
 pre:=fun _=>[]
 res:=fun(a,b)=>⟨[.one (.lit (.bool (decide (a=b))))],true,[]⟩
 law:=lC (lL .eTask) (l1 (lL .eTask))
def Zi42_4(a:(List DTask))(b:(List DTask)):Int×Unit→Prop:=eqI a b
def Zm42_4(a:(List DTask))(b:(List DTask)):Int×Unit→Nat:=rM1 a
def Za42:Zk42.α→Nat→Option (Ann UU):=fun(a,b)=>annL [(4,annOf [.slot 5 (5,1024) (.lit (.int .i64))] (fun _=>Zi42_4 a b) (Zm42_4 a b))]
def Zu42:=us [Zh114]
theorem Zv42(a:(List DTask))(b:(List DTask)):goal EE Zu42 Go.Proofs.Tryz.f42 Zk42 Za42 (a,b)=(eqV zTask a b):=by kernel_rfl
theorem Zo42:Holds EE (42,Zk42):=by
 refine holds_of EE_ok Go.Proofs.Tryz.func42 Zk42 (by kernel_rfl) Zu42 (us_ok _) Za42 (fun x hp hb=> ?_)
 obtain⟨a,b⟩:=x
 have hl_a:a.length≤9223372036854775807:=bdL (hb _ m0)
 have hl_b:b.length≤9223372036854775807:=bdL (hb _ m1)
 clear hp hb
 rw[Zv42 a b]
 exact eqV_ok hl_a
def Zh42:HH:=⟨_,Zo42⟩
def Zk49:Con UU where
 α:=(List DTask)×Int
 md:=[.wr,.ro]
 of:=oC (oL .eTask) (o1 oI)
 ds:=fun x=>[dL .eTask x.1,dI x.2]
 pre:=fun(a,k)=>[0≤k,k+cntTaskS a≤4611686018427387904]
 res:=fun(a,k)=>⟨[.one (.lit (.int .i64 (k+cntTaskS a)))],true,[.one (.sl .eTask (markTaskS a k))]⟩
 law:=lC (lL .eTask) (l1 lI)
def Zi49_2(a:(List DTask))(k:Int):List DTask×Int×Int×Unit→Prop:=fun(row,kk,i,_)=>0≤i∧i≤a.length∧row=(mkS markTask cntTask a k).take i.toNat++a.drop i.toNat∧kk=k+ctS cntTask (a.take i.toNat)
def Zm49_2(a:(List DTask))(k:Int):List DTask×Int×Int×Unit→Nat:=fun(row,kk,i,_)=>a.length-i.toNat
def Za49:Zk49.α→Nat→Option (Ann UU):=fun(a,k)=>annL [(2,annOf [.slot 0 (2000000,0) (.own .eTask true),.slot 1 (1,1024) (.lit (.int .i64)),.slot 5 (5,1024) (.lit (.int .i64))] (fun _=>Zi49_2 a k) (Zm49_2 a k))]
def Zu49:=us [Zh118,Zh64]
theorem Zv49(a:(List DTask))(k:Int):goal EE Zu49 Go.Proofs.Tryz.f49 Zk49 Za49 (a,k)=(Zi49_2 a k (a,k,(0:Int),())∧
 ∀(y:List DTask×Int×Int×PUnit),
  let x4:Nat:=Int.toNat y.2.2.1;
  let x9:List DTask:=List.modify y.1 x4 fun(x:DTask)=>{F:={Kind:=markText y.2.1,Fields:=x.F.Fields:DFact},Undo:=x.Undo,State:=x.State,Tries:=x.Tries,Due:=x.Due,V:=x.V:DTask};
  let x10:Int:=IntKind.wrap IntKind.i64 (y.2.1+(1:Int));
  let x6:Int:=x10+(↑(cntValS (List.getD x9 x4 zTask).F.Fields):Int);
  let x8:List DTask:=List.modify x9 x4 fun(x:DTask)=>{F:={Kind:=x.F.Kind,Fields:=markValS (List.getD x9 x4 zTask).F.Fields x10:DFact},Undo:=x.Undo,State:=x.State,Tries:=x.Tries,Due:=x.Due,V:=x.V:DTask};
  let x15:Int:=IntKind.wrap IntKind.i64 (IntKind.wrap IntKind.i64 (x6+(1:Int))+(1:Int));
  let x7:List DTask:=List.modify x8 x4 fun(x:DTask)=>{F:=x.F,Undo:=markText x6,State:=x.State,Tries:=x.Tries,Due:=x.Due,V:=x.V:DTask};
  let x14:Int:=IntKind.wrap IntKind.i64 (x15+(1:Int));
  let x5:List DTask:=List.modify x7 x4 fun(x:DTask)=>{F:=x.F,Undo:=x.Undo,State:=IntKind.wrap IntKind.i64 (x6+(1:Int)),Tries:=x.Tries,Due:=x.Due,V:=x.V:DTask};
  let x13:Int:=IntKind.wrap IntKind.i64 (x14+(1:Int));
  let x3:List DTask:=List.modify x5 x4 fun(x:DTask)=>{F:=x.F,Undo:=x.Undo,State:=x.State,Tries:=x15,Due:=x.Due,V:=x.V:DTask};
  let x12:Int:=IntKind.wrap IntKind.i64 (x13+(1:Int));
  let x2:List DTask:=List.modify x3 x4 fun(x:DTask)=>{F:=x.F,Undo:=x.Undo,State:=x.State,Tries:=x.Tries,Due:=x14,V:=x.V:DTask};
  let x11:Int:=IntKind.wrap IntKind.i64 (x12+(1:Int));
  let x1:List DTask:=List.modify x2 x4 fun(x:DTask)=>{F:=x.F,Undo:=x.Undo,State:=x.State,Tries:=x.Tries,Due:=x.Due,V:={K:=x13,N:=x.V.N,S:=x.V.S:DVal}:DTask};
  let x0:List DTask:=List.modify x1 x4 fun(x:DTask)=>{F:=x.F,Undo:=x.Undo,State:=x.State,Tries:=x.Tries,Due:=x.Due,V:={K:=x.V.K,N:=x12,S:=x.V.S:DVal}:DTask};
  Zi49_2 a k y→bif decide (y.2.2.1<(↑(List.length y.1):Int)) then y.2.1≤(4611686018427387903:Int)∧(0:Int)≤y.2.2.1∧x4<List.length y.1∧x4<List.length y.1∧(0:Int)≤y.2.2.1∧x4<List.length x9∧x4<List.length x9∧x4<List.length x9∧(0:Int)≤x10∧x6≤(4611686018427387904:Int)∧x6≤(4611686018427387903:Int)∧(0:Int)≤y.2.2.1∧x4<List.length x8∧x4<List.length x8∧(0:Int)≤y.2.2.1∧x4<List.length x7∧x4<List.length x7∧(0:Int)≤y.2.2.1∧x4<List.length x5∧x4<List.length x5∧(0:Int)≤y.2.2.1∧x4<List.length x3∧x4<List.length x3∧(0:Int)≤y.2.2.1∧x4<List.length x2∧x4<List.length x2∧(0:Int)≤y.2.2.1∧x4<List.length x1∧x4<List.length x1∧x11≤(4611686018427387903:Int)∧(0:Int)≤y.2.2.1∧x4<List.length x0∧x4<List.length x0∧Zi49_2 a k (List.modify x0 x4 fun(x:DTask)=>{F:=x.F,Undo:=x.Undo,State:=x.State,Tries:=x.Tries,Due:=x.Due,V:={K:=x.V.K,N:=x.V.N,S:=markText x11:DVal}:DTask},IntKind.wrap IntKind.i64 (x11+(1:Int)),IntKind.wrap IntKind.i64 (y.2.2.1+(1:Int)),PUnit.unit)∧Zm49_2 a k (List.modify x0 x4 fun(x:DTask)=>{F:=x.F,Undo:=x.Undo,State:=x.State,Tries:=x.Tries,Due:=x.Due,V:={K:=x.V.K,N:=x.V.N,S:=markText x11:DVal}:DTask},IntKind.wrap IntKind.i64 (x11+(1:Int)),IntKind.wrap IntKind.i64 (y.2.2.1+(1:Int)),PUnit.unit)<Zm49_2 a k y else asD [DV.one (Cell.lit (Value.int IntKind.i64 y.2.1))]=asD [DV.one (Cell.lit (Value.int IntKind.i64 (k+(↑(cntTaskS a):Int))))]∧asD [DV.one (Cell.sl Cd.eTask y.1)]=asD [DV.one (Cell.sl Cd.eTask (markTaskS a k))]):=by kernel_rfl
theorem Zo49:Holds EE (49,Zk49):=by
 refine holds_of EE_ok Go.Proofs.Tryz.func49 Zk49 (by kernel_rfl) Zu49 (us_ok _) Za49 (fun x hp hb=> ?_)
 obtain⟨a,k⟩:=x
 have hl_a:a.length≤9223372036854775807:=bdL (hb _ m0)
 have hl_k:=bdI (n:=k) (hb _ m1)
 have hp0:0≤k:=hp _ m0
 have hp1:k+cntTaskS a≤4611686018427387904:=hp _ m1
 clear hp hb
 rw[Zv49 a k]
 dsimp only
 refine⟨⟨by omega,by omega,by simp,by simp[ctS]⟩,?_⟩
 rintro⟨row,kk,i,⟨⟩⟩ ⟨h1,h2,rfl,rfl⟩
 simp only
 have hl:=mk_rl markTask cntTask a k h1 h2
 refine if_cond (fun hc=> ?_) (fun hc=> ?_)
 ·have hc:i<a.length:=by have hc:=of_decide_eq_true hc;omega
  have hct:=ctS_take cntTask a zTask h1 hc
  have hle:=ctS_take_le cntTask a (i+1).toNat
  have hg:=mk_getD _ a zTask (mk_tl markTask cntTask a k h1 h2) h1 hc
  have hM:=fun F hF=>mkS_mod markTask cntTask a zTask k (i:=i) F h1 hc hF
  have hq:(cntTaskS a:Int)=ctS cntTask a:=rfl
  generalize List.getD a i.toNat zTask=x at*
  generalize hkk:k+(ctS cntTask (a.take i.toNat):Int)=kk at*
  generalize List.take i.toNat (mkS markTask cntTask a k)++List.drop i.toNat a=R at*
  simp only[cntTask] at hct
  simp(disch:=first|omega|(simp only[zbf];omega)) only[zbf,wrap_i64,getD_modify,modify_modify,hg,hl]
  repeat' (first|refine And.intro (by omega) ?_|fail)
  exact⟨⟨by omega,by omega,hM _ (by first|rfl|(simp only[markTask,markBool];rw[zbp (by omega)];rfl)),by omega⟩,by simp only[Zm49_2];omega⟩
 ·have hc:a.length≤i:=by have hc:=of_decide_eq_false hc;omega
  rw[mk_done markTask cntTask a k hc,ct_done cntTask a hc]
  exact⟨rfl,rfl⟩
def Zh49:HH:=⟨_,Zo49⟩
def Zk54:Con UU where
 α:=(List DTask)×Int
 md:=[.ro,.ro]
 of:=oC (oL .eTask) (o1 oI)
 ds:=fun x=>[dL .eTask x.1,dI x.2]
 pre:=fun(a,k)=>[0≤k,k+cntTaskS a≤4611686018427387904]
 res:=fun(a,k)=>⟨[.one (.lit (.int .i64 (if markTaskS a k=a then k+cntTaskS a else-1)))],true,[]⟩
 law:=lC (lL .eTask) (l1 lI)
def Zi54_2(a:(List DTask))(k:Int):Int×Int×Unit→Prop:=fun(kk,i,_)=>0≤i∧i≤a.length∧kk=k+ctS cntTask (a.take i.toNat)∧(mkS markTask cntTask (a.drop i.toNat) kk=a.drop i.toNat↔mkS markTask cntTask a k=a)
def Zm54_2(a:(List DTask))(k:Int):Int×Int×Unit→Nat:=fun(kk,i,_)=>a.length-i.toNat
def Za54:Zk54.α→Nat→Option (Ann UU):=fun(a,k)=>annL [(2,annOf [.slot 1 (1,1024) (.lit (.int .i64)),.slot 5 (5,1024) (.lit (.int .i64))] (fun _=>Zi54_2 a k) (Zm54_2 a k))]
def Zu54:=us [Zh118,Zh128]
theorem Zv54(a:(List DTask))(k:Int):goal EE Zu54 Go.Proofs.Tryz.f54 Zk54 Za54 (a,k)=(Zi54_2 a k (k,(0:Int),())∧
 ∀(y:Int×Int×PUnit),
  let x3:Nat:=Int.toNat y.2.1;
  let x8:Int:=IntKind.wrap IntKind.i64 (y.1+(1:Int));
  let x1:DTask:=List.getD a x3 zTask;
  let x7:Int:=x8+(↑(cntValS x1.F.Fields):Int);
  let x0:Int:=if markValS x1.F.Fields x8=x1.F.Fields then x7 else(-1:Int);
  let x9:Int:=IntKind.wrap IntKind.i64 (IntKind.wrap IntKind.i64 (x0+(1:Int))+(1:Int));
  let x6:Int:=IntKind.wrap IntKind.i64 (x9+(1:Int));
  let x5:Int:=IntKind.wrap IntKind.i64 (x6+(1:Int));
  let x4:Int:=IntKind.wrap IntKind.i64 (x5+(1:Int));
  let x2:Int:=IntKind.wrap IntKind.i64 (x4+(1:Int));
  Zi54_2 a k y→bif decide (y.2.1<(↑(List.length a):Int)) then(0:Int)≤y.2.1∧x3<List.length a∧y.1≤(4611686018427387903:Int)∧bif !ByteArray.toList x1.F.Kind==ByteArray.toList (markText y.1) then Lf [DV.one (Cell.lit (Value.int IntKind.i64 (-1:Int)))] [DV.one (Cell.lit (Value.int IntKind.i64 (if markTaskS a k=a then k+(↑(cntTaskS a):Int) else(-1:Int))))] else(0:Int)≤y.2.1∧x3<List.length a∧(0:Int)≤x8∧x7≤(4611686018427387904:Int)∧bif decide (x0<(0:Int)) then Lf [DV.one (Cell.lit (Value.int IntKind.i64 (-1:Int)))] [DV.one (Cell.lit (Value.int IntKind.i64 (if markTaskS a k=a then k+(↑(cntTaskS a):Int) else(-1:Int))))] else(0:Int)≤y.2.1∧x3<List.length a∧x0≤(4611686018427387903:Int)∧bif !ByteArray.toList x1.Undo==ByteArray.toList (markText x0) then Lf [DV.one (Cell.lit (Value.int IntKind.i64 (-1:Int)))] [DV.one (Cell.lit (Value.int IntKind.i64 (if markTaskS a k=a then k+(↑(cntTaskS a):Int) else(-1:Int))))] else(0:Int)≤y.2.1∧x3<List.length a∧bif x1.State !=IntKind.wrap IntKind.i64 (x0+(1:Int)) then Lf [DV.one (Cell.lit (Value.int IntKind.i64 (-1:Int)))] [DV.one (Cell.lit (Value.int IntKind.i64 (if markTaskS a k=a then k+(↑(cntTaskS a):Int) else(-1:Int))))] else(0:Int)≤y.2.1∧x3<List.length a∧bif x1.Tries !=x9 then Lf [DV.one (Cell.lit (Value.int IntKind.i64 (-1:Int)))] [DV.one (Cell.lit (Value.int IntKind.i64 (if markTaskS a k=a then k+(↑(cntTaskS a):Int) else(-1:Int))))] else(0:Int)≤y.2.1∧x3<List.length a∧bif x1.Due !=x6 then Lf [DV.one (Cell.lit (Value.int IntKind.i64 (-1:Int)))] [DV.one (Cell.lit (Value.int IntKind.i64 (if markTaskS a k=a then k+(↑(cntTaskS a):Int) else(-1:Int))))] else(0:Int)≤y.2.1∧x3<List.length a∧bif x1.V.K !=x5 then Lf [DV.one (Cell.lit (Value.int IntKind.i64 (-1:Int)))] [DV.one (Cell.lit (Value.int IntKind.i64 (if markTaskS a k=a then k+(↑(cntTaskS a):Int) else(-1:Int))))] else(0:Int)≤y.2.1∧x3<List.length a∧bif x1.V.N !=x4 then Lf [DV.one (Cell.lit (Value.int IntKind.i64 (-1:Int)))] [DV.one (Cell.lit (Value.int IntKind.i64 (if markTaskS a k=a then k+(↑(cntTaskS a):Int) else(-1:Int))))] else(0:Int)≤y.2.1∧x3<List.length a∧x2≤(4611686018427387903:Int)∧bif !ByteArray.toList x1.V.S==ByteArray.toList (markText x2) then Lf [DV.one (Cell.lit (Value.int IntKind.i64 (-1:Int)))] [DV.one (Cell.lit (Value.int IntKind.i64 (if markTaskS a k=a then k+(↑(cntTaskS a):Int) else(-1:Int))))] else Zi54_2 a k (IntKind.wrap IntKind.i64 (x2+(1:Int)),IntKind.wrap IntKind.i64 (y.2.1+(1:Int)),PUnit.unit)∧Zm54_2 a k (IntKind.wrap IntKind.i64 (x2+(1:Int)),IntKind.wrap IntKind.i64 (y.2.1+(1:Int)),PUnit.unit)<Zm54_2 a k y else Lf [DV.one (Cell.lit (Value.int IntKind.i64 y.1))] [DV.one (Cell.lit (Value.int IntKind.i64 (if markTaskS a k=a then k+(↑(cntTaskS a):Int) else(-1:Int))))]):=by kernel_rfl
theorem Zo54:Holds EE (54,Zk54):=by
 refine holds_of EE_ok Go.Proofs.Tryz.func54 Zk54 (by kernel_rfl) Zu54 (us_ok _) Za54 (fun x hp hb=> ?_)
 obtain⟨a,k⟩:=x
 have hl_a:a.length≤9223372036854775807:=bdL (hb _ m0)
 have hl_k:=bdI (n:=k) (hb _ m1)
 have hp0:0≤k:=hp _ m0
 have hp1:k+cntTaskS a≤4611686018427387904:=hp _ m1
 clear hp hb
 rw[Zv54 a k]
 dsimp only
 refine⟨⟨by omega,by omega,by simp[ctS],by simp⟩,?_⟩
 rintro⟨kk,i,⟨⟩⟩ ⟨h1,h2,hkk,hR⟩
 simp only
 simp only[markTaskS]
 refine if_cond (fun hc=> ?_) (fun hc=> ?_)
 ·have hc:i<a.length:=by have hc:=of_decide_eq_true hc;omega
  have hct:=ctS_take cntTask a zTask h1 hc
  have hle:=ctS_take_le cntTask a (i+1).toNat
  have hq:(cntTaskS a:Int)=ctS cntTask a:=rfl
  rw[drop_step a zTask h1 hc] at hR
  generalize List.getD a i.toNat zTask=x at*
  simp only[mkS,zdd] at hR
  have e:kk+(cntTask x:Int)=kk+1+(cntValS x.F.Fields:Int)+1+1+1+1+1+1+1:=by first|(simp only[cntTask];done)|(simp only[cntTask];omega)
  rw[e] at hR
  simp only[markTask,cntTask] at hR hct
  simp(disch:=omega) only[wrap_i64,bne_int,toList_beq]
  obtain⟨⟨x_F_Kind,x_F_Fields⟩,x_Undo,x_State,x_Tries,x_Due,⟨x_V_K,x_V_N,x_V_S⟩⟩:=x
  simp only[DFact.mk.injEq,DTask.mk.injEq,DVal.mk.injEq] at*
  repeat' (first|refine And.intro (by omega) ?_|fail)
  refine if_cond (fun h=>Lf_no (fun hh=> ?_)) (fun h=> ?_)
  ·have hh:=hR.2 hh;simp_all
  have h:x_F_Kind=markText (kk):=by simpa using h
  subst x_F_Kind
  repeat' (first|refine And.intro (by omega) ?_|fail)
  by_cases hm:markValS x_F_Fields (kk+1)=x_F_Fields
  rotate_left
  ·simp only[if_neg hm];rw[cond_yes (by decide)]
   exact Lf_no (fun hh=>hm (by have hh:=hR.2 hh;simp_all))
  simp only[if_pos hm]
  refine if_cond (fun h=>absurd (of_decide_eq_true h) (by omega)) (fun h=> ?_)
  simp only[hm] at hR
  clear hm
  repeat' (first|refine And.intro (by omega) ?_|fail)
  refine if_cond (fun h=>Lf_no (fun hh=> ?_)) (fun h=> ?_)
  ·have hh:=hR.2 hh;simp_all
  have h:x_Undo=markText (kk+1+cntValS x_F_Fields):=by simpa using h
  subst x_Undo
  repeat' (first|refine And.intro (by omega) ?_|fail)
  refine if_cond (fun h=>Lf_no (fun hh=> ?_)) (fun h=> ?_)
  ·have hh:=hR.2 hh;simp_all
  have h:x_State=kk+1+cntValS x_F_Fields+1:=by simpa using h
  subst x_State
  repeat' (first|refine And.intro (by omega) ?_|fail)
  refine if_cond (fun h=>Lf_no (fun hh=> ?_)) (fun h=> ?_)
  ·have hh:=hR.2 hh;simp_all
  have h:x_Tries=kk+1+cntValS x_F_Fields+1+1:=by simpa using h
  subst x_Tries
  repeat' (first|refine And.intro (by omega) ?_|fail)
  refine if_cond (fun h=>Lf_no (fun hh=> ?_)) (fun h=> ?_)
  ·have hh:=hR.2 hh;simp_all
  have h:x_Due=kk+1+cntValS x_F_Fields+1+1+1:=by simpa using h
  subst x_Due
  repeat' (first|refine And.intro (by omega) ?_|fail)
  refine if_cond (fun h=>Lf_no (fun hh=> ?_)) (fun h=> ?_)
  ·have hh:=hR.2 hh;simp_all
  have h:x_V_K=kk+1+cntValS x_F_Fields+1+1+1+1:=by simpa using h
  subst x_V_K
  repeat' (first|refine And.intro (by omega) ?_|fail)
  refine if_cond (fun h=>Lf_no (fun hh=> ?_)) (fun h=> ?_)
  ·have hh:=hR.2 hh;simp_all
  have h:x_V_N=kk+1+cntValS x_F_Fields+1+1+1+1+1:=by simpa using h
  subst x_V_N
  repeat' (first|refine And.intro (by omega) ?_|fail)
  refine if_cond (fun h=>Lf_no (fun hh=> ?_)) (fun h=> ?_)
  ·have hh:=hR.2 hh;simp_all
  have h:x_V_S=markText (kk+1+cntValS x_F_Fields+1+1+1+1+1+1):=by simpa using h
  subst x_V_S
  exact⟨⟨by omega,by omega,by omega,by simpa using hR⟩,by simp only[Zm54_2];omega⟩
 ·have hc:a.length≤i:=by have hc:=of_decide_eq_false hc;omega
  rw[drop_end a hc] at hR
  exact Lf_yes (hR.1 rfl) (by rw[hkk,ct_done _ _ hc];rfl)
def Zh54:HH:=⟨_,Zo54⟩
def Zk70:Con UU where
 α:=DUndo×Int
 md:=[.ro,.ro]
 of:=oC (oA .lUndo) (o1 oI)
 ds:=fun x=>[dA .lUndo x.1,dI x.2]
 pre:=fun(a,left)=>[0≤left]
 res:=fun(a,left)=>⟨[.one (.lit (.int .i64 (szr left (sizeUndo a))))],true,[]⟩
 law:=lC (lA .lUndo) (l1 lI)
def Za70:Zk70.α→Nat→Option (Ann UU):=fun(a,left)=>annL []
def Zu70:=us [Zh16]
theorem Zv70(a:DUndo)(left:Int):goal EE Zu70 Go.Proofs.Tryz.f70 Zk70 Za70 (a,left)=(let x0:Int:=IntKind.wrap IntKind.i64 (left-(↑(ByteArray.size a.Key):Int));
bif decide (x0<(0:Int)) then Lf [DV.one (Cell.lit (Value.int IntKind.i64 (-1:Int)))] [DV.one (Cell.lit (Value.int IntKind.i64 (szr left (sizeUndo a))))] else(0:Int)≤x0∧bif decide (szr x0 (sizeFact a.F)<(0:Int)) then Lf [DV.one (Cell.lit (Value.int IntKind.i64 (-1:Int)))] [DV.one (Cell.lit (Value.int IntKind.i64 (szr left (sizeUndo a))))] else Lf [DV.one (Cell.lit (Value.int IntKind.i64 (szr x0 (sizeFact a.F))))] [DV.one (Cell.lit (Value.int IntKind.i64 (szr left (sizeUndo a))))]):=by kernel_rfl
theorem Zo70:Holds EE (70,Zk70):=by
 refine holds_of EE_ok Go.Proofs.Tryz.func70 Zk70 (by kernel_rfl) Zu70 (us_ok _) Za70 (fun x hp hb=> ?_)
 obtain⟨a,left⟩:=x
 have hz0:=bd_lUndo (x:=a) (hb _ m0)
 have hl_a_Key:=hz0.1
 have hl_a_F_Kind:=hz0.2.1
 have hl_a_F_Fields:=hz0.2.2
 have hl_left:=bdI (n:=left) (hb _ m1)
 have hp0:0≤left:=hp _ m0
 clear hp hb
 rw[Zv70 a left]
 dsimp only
 rw[wrap_i64 (by omega) (by omega)]
 refine if_cond (fun h=>Lf_i (szr_bad' ?_)) (fun h=> ?_)
 ·have h:=of_decide_eq_true h;simp only[sizeUndo];omega
 have h0:=of_decide_eq_false h
 refine⟨by omega,if_cond (fun h=>Lf_i (szr_bad' ?_)) (fun h=> ?_)⟩
 ·have h:=szr_neg h;simp only[sizeUndo];omega
 obtain⟨e1,h1⟩:=szr_pos h
 rw[e1]
 exact Lf_i (by rw[←szr_ok' (by simp only[sizeUndo];omega)];simp only[sizeUndo];try omega)
def Zh70:HH:=⟨_,Zo70⟩
def Zk93:Con UU where
 α:=DUndo
 md:=[.ro]
 of:=o1 (oA .lUndo)
 ds:=fun x=>[dA .lUndo x]
 pre:=fun a=>[sizeUndo a≤4294967296]
 res:=fun a=>⟨[.agg [.lit (.string a.Key),.lit (.string a.F.Kind),.sl .eVal a.F.Fields]],true,[]⟩
 law:=l1 (lA .lUndo)
def Za93:Zk93.α→Nat→Option (Ann UU):=fun a=>annL []
def Zu93:=us [Zh18]
theorem Zv93(a:DUndo):goal EE Zu93 Go.Proofs.Tryz.f93 Zk93 Za93 a=(sizeFact a.F≤(4294967296:Nat)∧Lf [DV.agg [Cell.lit (Value.string a.Key),Cell.lit (Value.string a.F.Kind),Cell.sl Cd.eVal a.F.Fields]] [DV.agg [Cell.lit (Value.string a.Key),Cell.lit (Value.string a.F.Kind),Cell.sl Cd.eVal a.F.Fields]]):=by kernel_rfl
theorem Zo93:Holds EE (93,Zk93):=by
 refine holds_of EE_ok Go.Proofs.Tryz.func93 Zk93 (by kernel_rfl) Zu93 (us_ok _) Za93 (fun(a:DUndo) hp hb=> ?_)
 have hz0:=bd_lUndo (x:=a) (hb _ m0)
 have hl_a_Key:=hz0.1
 have hl_a_F_Kind:=hz0.2.1
 have hl_a_F_Fields:=hz0.2.2
 have hp0:sizeUndo a≤4294967296:=hp _ m0
 clear hp hb
 rw[Zv93 a]
 simp only[sizeUndo] at hp0
 repeat' (first|exact Lf_rfl _|(refine And.intro (by omega) ?_))
def Zh93:HH:=⟨_,Zo93⟩
def Zk116:Con UU where
 α:=DUndo×DUndo
 md:=[.ro,.ro]
 of:=oC (oA .eUndo) (o1 (oA .eUndo))
 ds:=fun x=>[dA .eUndo x.1,dA .eUndo x.2]
 pre:=fun _=>[]
 res:=fun(a,b)=>⟨[.one (.lit (.bool (decide (a=b))))],true,[]⟩
 law:=lC (lA .eUndo) (l1 (lA .eUndo))
def Za116:Zk116.α→Nat→Option (Ann UU):=fun(a,b)=>annL []
def Zu116:=us [Zh20]
theorem Zv116(a:DUndo)(b:DUndo):goal EE Zu116 Go.Proofs.Tryz.f116 Zk116 Za116 (a,b)=(bif !ByteArray.toList a.Key==ByteArray.toList b.Key then Lb false (decide (a=b)) else bif !decide (a.F=b.F) then Lb false (decide (a=b)) else Lb true (decide (a=b))):=by kernel_rfl
theorem Zo116:Holds EE (116,Zk116):=by
 refine holds_of EE_ok Go.Proofs.Tryz.func116 Zk116 (by kernel_rfl) Zu116 (us_ok _) Za116 (fun x hp hb=> ?_)
 obtain⟨a,b⟩:=x
 have hz0:=bd_eUndo (x:=a) (hb _ m0)
 have hl_a_Key:=hz0.1
 have hl_a_F_Kind:=hz0.2.1
 have hl_a_F_Fields:=hz0.2.2
 have hz1:=bd_eUndo (x:=b) (hb _ m1)
 have hl_b_Key:=hz1.1
 have hl_b_F_Kind:=hz1.2.1
 have hl_b_F_Fields:=hz1.2.2
 clear hp hb
 rw[Zv116 a b]
 obtain⟨aKey,aF⟩:=a
 obtain⟨bKey,bF⟩:=b
 repeat' (apply if_cond<;>intro _)
 all_goals (first|apply Lf_t|apply Lf_f)<;>simp_all
def Zh116:HH:=⟨_,Zo116⟩
def Zk27:Con UU where
 α:=(List DUndo)×Int
 md:=[.ro,.ro]
 of:=oC (oL .lUndo) (o1 oI)
 ds:=fun x=>[dL .lUndo x.1,dI x.2]
 pre:=fun(a,left)=>[0≤left]
 res:=fun(a,left)=>⟨[.one (.lit (.int .i64 (szr left (sizeUndoS a))))],true,[]⟩
 law:=lC (lL .lUndo) (l1 lI)
def Zi27_5(a:(List DUndo))(left:Int):Int×Int×Unit→Prop:=szI sizeUndo a (sizeUndoS a) left
def Zm27_5(a:(List DUndo))(left:Int):Int×Int×Unit→Nat:=rM2 a
def Za27:Zk27.α→Nat→Option (Ann UU):=fun(a,left)=>annL [(5,annOf [.slot 1 (1,1024) (.lit (.int .i64)),.slot 5 (5,1024) (.lit (.int .i64))] (fun _=>Zi27_5 a left) (Zm27_5 a left))]
def Zu27:=us [Zh70]
theorem Zv27(a:(List DUndo))(left:Int):goal EE Zu27 Go.Proofs.Tryz.f27 Zk27 Za27 (a,left)=(szV sizeUndo zUndo a (sizeUndoS a) left):=by kernel_rfl
theorem Zo27:Holds EE (27,Zk27):=by
 refine holds_of EE_ok Go.Proofs.Tryz.func27 Zk27 (by kernel_rfl) Zu27 (us_ok _) Za27 (fun x hp hb=> ?_)
 obtain⟨a,left⟩:=x
 have hl_a:a.length≤9223372036854775807:=bdL (hb _ m0)
 have hl_left:=bdI (n:=left) (hb _ m1)
 have hp0:0≤left:=hp _ m0
 clear hp hb
 rw[Zv27 a left]
 exact szV_ok rfl hp0 hl_left hl_a
def Zh27:HH:=⟨_,Zo27⟩
def Zk36:Con UU where
 α:=(List DUndo)
 md:=[.ro]
 of:=o1 (oL .lUndo)
 ds:=fun x=>[dL .lUndo x]
 pre:=fun a=>[sizeUndoS a≤4294967296]
 res:=fun a=>⟨[.one (.sl .eUndo a)],true,[]⟩
 law:=l1 (lL .lUndo)
def Zi36_3(a:(List DUndo)):List DUndo×Int×Unit→Prop:=toI zUndo a
def Zm36_3(a:(List DUndo)):List DUndo×Int×Unit→Nat:=rM2 a
def Za36:Zk36.α→Nat→Option (Ann UU):=fun a=>annL [(3,annOf [.slot 3 (3,1024) (.own .eUndo true),.slot 4 (4,1024) (.lit (.int .i64))] (fun _=>Zi36_3 a) (Zm36_3 a))]
def Zu36:=us [Zh93]
theorem Zv36(a:(List DUndo)):goal EE Zu36 Go.Proofs.Tryz.f36 Zk36 Za36 a=(toV sizeUndo zUndo a fun y=>Lf [.one (.sl .eUndo y)] [.one (.sl .eUndo a)]):=by kernel_rfl
theorem Zo36:Holds EE (36,Zk36):=by
 refine holds_of EE_ok Go.Proofs.Tryz.func36 Zk36 (by kernel_rfl) Zu36 (us_ok _) Za36 (fun(a:(List DUndo)) hp hb=> ?_)
 have hl_a:a.length≤9223372036854775807:=bdL (hb _ m0)
 have hp0:sizeUndoS a≤4294967296:=hp _ m0
 clear hp hb
 rw[Zv36 a]
 exact toV_ok hp0 (Lf_rfl _)
def Zh36:HH:=⟨_,Zo36⟩
def Zk44:Con UU where
 α:=(List DUndo)×(List DUndo)
 md:=[.ro,.ro]
 of:=oC (oL .eUndo) (o1 (oL .eUndo))
 ds:=fun x=>[dL .eUndo x.1,dL .eUndo x.2]
 pre:=fun _=>[]
 res:=fun(a,b)=>⟨[.one (.lit (.bool (decide (a=b))))],true,[]⟩
 law:=lC (lL .eUndo) (l1 (lL .eUndo))
def Zi44_4(a:(List DUndo))(b:(List DUndo)):Int×Unit→Prop:=eqI a b
def Zm44_4(a:(List DUndo))(b:(List DUndo)):Int×Unit→Nat:=rM1 a
def Za44:Zk44.α→Nat→Option (Ann UU):=fun(a,b)=>annL [(4,annOf [.slot 5 (5,1024) (.lit (.int .i64))] (fun _=>Zi44_4 a b) (Zm44_4 a b))]
def Zu44:=us [Zh116]
theorem Zv44(a:(List DUndo))(b:(List DUndo)):goal EE Zu44 Go.Proofs.Tryz.f44 Zk44 Za44 (a,b)=(eqV zUndo a b):=by kernel_rfl
theorem Zo44:Holds EE (44,Zk44):=by
 refine holds_of EE_ok Go.Proofs.Tryz.func44 Zk44 (by kernel_rfl) Zu44 (us_ok _) Za44 (fun x hp hb=> ?_)
 obtain⟨a,b⟩:=x
 have hl_a:a.length≤9223372036854775807:=bdL (hb _ m0)
 have hl_b:b.length≤9223372036854775807:=bdL (hb _ m1)
 clear hp hb
 rw[Zv44 a b]
 exact eqV_ok hl_a
def Zh44:HH:=⟨_,Zo44⟩
def Zk51:Con UU where
 α:=(List DUndo)×Int
 md:=[.wr,.ro]
 of:=oC (oL .eUndo) (o1 oI)
 ds:=fun x=>[dL .eUndo x.1,dI x.2]
 pre:=fun(a,k)=>[0≤k,k+cntUndoS a≤4611686018427387904]
 res:=fun(a,k)=>⟨[.one (.lit (.int .i64 (k+cntUndoS a)))],true,[.one (.sl .eUndo (markUndoS a k))]⟩
 law:=lC (lL .eUndo) (l1 lI)
def Zi51_2(a:(List DUndo))(k:Int):List DUndo×Int×Int×Unit→Prop:=fun(row,kk,i,_)=>0≤i∧i≤a.length∧row=(mkS markUndo cntUndo a k).take i.toNat++a.drop i.toNat∧kk=k+ctS cntUndo (a.take i.toNat)
def Zm51_2(a:(List DUndo))(k:Int):List DUndo×Int×Int×Unit→Nat:=fun(row,kk,i,_)=>a.length-i.toNat
def Za51:Zk51.α→Nat→Option (Ann UU):=fun(a,k)=>annL [(2,annOf [.slot 0 (2000000,0) (.own .eUndo true),.slot 1 (1,1024) (.lit (.int .i64)),.slot 5 (5,1024) (.lit (.int .i64))] (fun _=>Zi51_2 a k) (Zm51_2 a k))]
def Zu51:=us [Zh118,Zh64]
theorem Zv51(a:(List DUndo))(k:Int):goal EE Zu51 Go.Proofs.Tryz.f51 Zk51 Za51 (a,k)=(Zi51_2 a k (a,k,(0:Int),())∧
 ∀(y:List DUndo×Int×Int×PUnit),
  let x1:Nat:=Int.toNat y.2.2.1;
  let x3:Int:=IntKind.wrap IntKind.i64 (y.2.1+(1:Int));
  let x4:List DUndo:=List.modify y.1 x1 fun(x:DUndo)=>{Key:=markText y.2.1,F:=x.F:DUndo};
  let x0:List DUndo:=List.modify x4 x1 fun(x:DUndo)=>{Key:=x.Key,F:={Kind:=markText x3,Fields:=x.F.Fields:DFact}:DUndo};
  let x2:Int:=IntKind.wrap IntKind.i64 (x3+(1:Int));
  let x5:Int:=x2+(↑(cntValS (List.getD x0 x1 zUndo).F.Fields):Int);
  Zi51_2 a k y→bif decide (y.2.2.1<(↑(List.length y.1):Int)) then y.2.1≤(4611686018427387903:Int)∧(0:Int)≤y.2.2.1∧x1<List.length y.1∧x1<List.length y.1∧x3≤(4611686018427387903:Int)∧(0:Int)≤y.2.2.1∧x1<List.length x4∧x1<List.length x4∧(0:Int)≤y.2.2.1∧x1<List.length x0∧x1<List.length x0∧x1<List.length x0∧(0:Int)≤x2∧x5≤(4611686018427387904:Int)∧Zi51_2 a k (List.modify x0 x1 fun(x:DUndo)=>{Key:=x.Key,F:={Kind:=x.F.Kind,Fields:=markValS (List.getD x0 x1 zUndo).F.Fields x2:DFact}:DUndo},x5,IntKind.wrap IntKind.i64 (y.2.2.1+(1:Int)),PUnit.unit)∧Zm51_2 a k (List.modify x0 x1 fun(x:DUndo)=>{Key:=x.Key,F:={Kind:=x.F.Kind,Fields:=markValS (List.getD x0 x1 zUndo).F.Fields x2:DFact}:DUndo},x5,IntKind.wrap IntKind.i64 (y.2.2.1+(1:Int)),PUnit.unit)<Zm51_2 a k y else asD [DV.one (Cell.lit (Value.int IntKind.i64 y.2.1))]=asD [DV.one (Cell.lit (Value.int IntKind.i64 (k+(↑(cntUndoS a):Int))))]∧asD [DV.one (Cell.sl Cd.eUndo y.1)]=asD [DV.one (Cell.sl Cd.eUndo (markUndoS a k))]):=by kernel_rfl
theorem Zo51:Holds EE (51,Zk51):=by
 refine holds_of EE_ok Go.Proofs.Tryz.func51 Zk51 (by kernel_rfl) Zu51 (us_ok _) Za51 (fun x hp hb=> ?_)
 obtain⟨a,k⟩:=x
 have hl_a:a.length≤9223372036854775807:=bdL (hb _ m0)
 have hl_k:=bdI (n:=k) (hb _ m1)
 have hp0:0≤k:=hp _ m0
 have hp1:k+cntUndoS a≤4611686018427387904:=hp _ m1
 clear hp hb
 rw[Zv51 a k]
 dsimp only
 refine⟨⟨by omega,by omega,by simp,by simp[ctS]⟩,?_⟩
 rintro⟨row,kk,i,⟨⟩⟩ ⟨h1,h2,rfl,rfl⟩
 simp only
 have hl:=mk_rl markUndo cntUndo a k h1 h2
 refine if_cond (fun hc=> ?_) (fun hc=> ?_)
 ·have hc:i<a.length:=by have hc:=of_decide_eq_true hc;omega
  have hct:=ctS_take cntUndo a zUndo h1 hc
  have hle:=ctS_take_le cntUndo a (i+1).toNat
  have hg:=mk_getD _ a zUndo (mk_tl markUndo cntUndo a k h1 h2) h1 hc
  have hM:=fun F hF=>mkS_mod markUndo cntUndo a zUndo k (i:=i) F h1 hc hF
  have hq:(cntUndoS a:Int)=ctS cntUndo a:=rfl
  generalize List.getD a i.toNat zUndo=x at*
  generalize hkk:k+(ctS cntUndo (a.take i.toNat):Int)=kk at*
  generalize List.take i.toNat (mkS markUndo cntUndo a k)++List.drop i.toNat a=R at*
  simp only[cntUndo] at hct
  simp(disch:=first|omega|(simp only[zbf];omega)) only[zbf,wrap_i64,getD_modify,modify_modify,hg,hl]
  repeat' (first|refine And.intro (by omega) ?_|fail)
  exact⟨⟨by omega,by omega,hM _ (by first|rfl|(simp only[markUndo,markBool];rw[zbp (by omega)];rfl)),by omega⟩,by simp only[Zm51_2];omega⟩
 ·have hc:a.length≤i:=by have hc:=of_decide_eq_false hc;omega
  rw[mk_done markUndo cntUndo a k hc,ct_done cntUndo a hc]
  exact⟨rfl,rfl⟩
def Zh51:HH:=⟨_,Zo51⟩
def Zk56:Con UU where
 α:=(List DUndo)×Int
 md:=[.ro,.ro]
 of:=oC (oL .eUndo) (o1 oI)
 ds:=fun x=>[dL .eUndo x.1,dI x.2]
 pre:=fun(a,k)=>[0≤k,k+cntUndoS a≤4611686018427387904]
 res:=fun(a,k)=>⟨[.one (.lit (.int .i64 (if markUndoS a k=a then k+cntUndoS a else-1)))],true,[]⟩
 law:=lC (lL .eUndo) (l1 lI)
def Zi56_2(a:(List DUndo))(k:Int):Int×Int×Unit→Prop:=fun(kk,i,_)=>0≤i∧i≤a.length∧kk=k+ctS cntUndo (a.take i.toNat)∧(mkS markUndo cntUndo (a.drop i.toNat) kk=a.drop i.toNat↔mkS markUndo cntUndo a k=a)
def Zm56_2(a:(List DUndo))(k:Int):Int×Int×Unit→Nat:=fun(kk,i,_)=>a.length-i.toNat
def Za56:Zk56.α→Nat→Option (Ann UU):=fun(a,k)=>annL [(2,annOf [.slot 1 (1,1024) (.lit (.int .i64)),.slot 5 (5,1024) (.lit (.int .i64))] (fun _=>Zi56_2 a k) (Zm56_2 a k))]
def Zu56:=us [Zh118,Zh128]
theorem Zv56(a:(List DUndo))(k:Int):goal EE Zu56 Go.Proofs.Tryz.f56 Zk56 Za56 (a,k)=(Zi56_2 a k (k,(0:Int),())∧
 ∀(y:Int×Int×PUnit),
  let x4:Nat:=Int.toNat y.2.1;
  let x6:Int:=IntKind.wrap IntKind.i64 (y.1+(1:Int));
  let x3:DUndo:=List.getD a x4 zUndo;
  let x5:Int:=IntKind.wrap IntKind.i64 (x6+(1:Int));
  let x2:DFact:=x3.F;
  let x1:List DVal:=x2.Fields;
  let x0:Int:=if markValS x1 x5=x1 then x5+(↑(cntValS x1):Int) else(-1:Int);
  Zi56_2 a k y→bif decide (y.2.1<(↑(List.length a):Int)) then(0:Int)≤y.2.1∧x4<List.length a∧y.1≤(4611686018427387903:Int)∧bif !ByteArray.toList x3.Key==ByteArray.toList (markText y.1) then Lf [DV.one (Cell.lit (Value.int IntKind.i64 (-1:Int)))] [DV.one (Cell.lit (Value.int IntKind.i64 (if markUndoS a k=a then k+(↑(cntUndoS a):Int) else(-1:Int))))] else(0:Int)≤y.2.1∧x4<List.length a∧x6≤(4611686018427387903:Int)∧bif !ByteArray.toList x2.Kind==ByteArray.toList (markText x6) then Lf [DV.one (Cell.lit (Value.int IntKind.i64 (-1:Int)))] [DV.one (Cell.lit (Value.int IntKind.i64 (if markUndoS a k=a then k+(↑(cntUndoS a):Int) else(-1:Int))))] else(0:Int)≤y.2.1∧x4<List.length a∧(0:Int)≤x5∧x5+(↑(cntValS x1):Int)≤(4611686018427387904:Int)∧bif decide (x0<(0:Int)) then Lf [DV.one (Cell.lit (Value.int IntKind.i64 (-1:Int)))] [DV.one (Cell.lit (Value.int IntKind.i64 (if markUndoS a k=a then k+(↑(cntUndoS a):Int) else(-1:Int))))] else Zi56_2 a k (x0,IntKind.wrap IntKind.i64 (y.2.1+(1:Int)),PUnit.unit)∧Zm56_2 a k (x0,IntKind.wrap IntKind.i64 (y.2.1+(1:Int)),PUnit.unit)<Zm56_2 a k y else Lf [DV.one (Cell.lit (Value.int IntKind.i64 y.1))] [DV.one (Cell.lit (Value.int IntKind.i64 (if markUndoS a k=a then k+(↑(cntUndoS a):Int) else(-1:Int))))]):=by kernel_rfl
theorem Zo56:Holds EE (56,Zk56):=by
 refine holds_of EE_ok Go.Proofs.Tryz.func56 Zk56 (by kernel_rfl) Zu56 (us_ok _) Za56 (fun x hp hb=> ?_)
 obtain⟨a,k⟩:=x
 have hl_a:a.length≤9223372036854775807:=bdL (hb _ m0)
 have hl_k:=bdI (n:=k) (hb _ m1)
 have hp0:0≤k:=hp _ m0
 have hp1:k+cntUndoS a≤4611686018427387904:=hp _ m1
 clear hp hb
 rw[Zv56 a k]
 dsimp only
 refine⟨⟨by omega,by omega,by simp[ctS],by simp⟩,?_⟩
 rintro⟨kk,i,⟨⟩⟩ ⟨h1,h2,hkk,hR⟩
 simp only
 simp only[markUndoS]
 refine if_cond (fun hc=> ?_) (fun hc=> ?_)
 ·have hc:i<a.length:=by have hc:=of_decide_eq_true hc;omega
  have hct:=ctS_take cntUndo a zUndo h1 hc
  have hle:=ctS_take_le cntUndo a (i+1).toNat
  have hq:(cntUndoS a:Int)=ctS cntUndo a:=rfl
  rw[drop_step a zUndo h1 hc] at hR
  generalize List.getD a i.toNat zUndo=x at*
  simp only[mkS,zdd] at hR
  have e:kk+(cntUndo x:Int)=kk+1+1+(cntValS x.F.Fields:Int):=by first|(simp only[cntUndo];done)|(simp only[cntUndo];omega)
  rw[e] at hR
  simp only[markUndo,cntUndo] at hR hct
  simp(disch:=omega) only[wrap_i64,bne_int,toList_beq]
  obtain⟨x_Key,⟨x_F_Kind,x_F_Fields⟩⟩:=x
  simp only[DFact.mk.injEq,DUndo.mk.injEq] at*
  repeat' (first|refine And.intro (by omega) ?_|fail)
  refine if_cond (fun h=>Lf_no (fun hh=> ?_)) (fun h=> ?_)
  ·have hh:=hR.2 hh;simp_all
  have h:x_Key=markText (kk):=by simpa using h
  subst x_Key
  repeat' (first|refine And.intro (by omega) ?_|fail)
  refine if_cond (fun h=>Lf_no (fun hh=> ?_)) (fun h=> ?_)
  ·have hh:=hR.2 hh;simp_all
  have h:x_F_Kind=markText (kk+1):=by simpa using h
  subst x_F_Kind
  repeat' (first|refine And.intro (by omega) ?_|fail)
  by_cases hm:markValS x_F_Fields (kk+1+1)=x_F_Fields
  rotate_left
  ·simp only[if_neg hm];rw[cond_yes (by decide)]
   exact Lf_no (fun hh=>hm (by have hh:=hR.2 hh;simp_all))
  simp only[if_pos hm]
  refine if_cond (fun h=>absurd (of_decide_eq_true h) (by omega)) (fun h=> ?_)
  simp only[hm] at hR
  clear hm
  exact⟨⟨by omega,by omega,by omega,by simpa using hR⟩,by simp only[Zm56_2];omega⟩
 ·have hc:a.length≤i:=by have hc:=of_decide_eq_false hc;omega
  rw[drop_end a hc] at hR
  exact Lf_yes (hR.1 rfl) (by rw[hkk,ct_done _ _ hc];rfl)
def Zh56:HH:=⟨_,Zo56⟩
def allI(n:Nat)(p:Nat→Bool):Bool:=(List.range n).all p
theorem allI_true{n:Nat}{p:Nat→Bool}(h:∀j,j<n→p j=true):allI n p=true:=by simpa[allI] using h
theorem allI_false{n:Nat}{p:Nat→Bool}{j:Nat}(h:j<n)(hj:p j=false):allI n p=false:=by
 simp only[allI,List.all_eq_false,zay]
 exact⟨j,h,by simp[hj]⟩
theorem upto_step{i:Int}{p:Nat→Bool}(h0:0≤i)(h:∀j:Nat,(j:Int)<i→p j=true)(hi:p i.toNat=true):∀j:Nat,(j:Int)<i+1→p j=true:=by
 intro j hj
 by_cases hji:(j:Int)<i
 ·exact h j hji
 ·have:j=i.toNat:=by omega
  subst this;exact hi
def timerOk(x:DTimer):Bool:=decide (0≤x.At∧x.At≤1000000000)&&factOk x.F
def timerAt(l:List DTimer)(i:Nat):Bool:=timerOk (List.getD l i zTimer)&&(decide (i=0)||decide ((List.getD l (i-1) zTimer).At≤(List.getD l i zTimer).At))
def timersOk(l:List DTimer):Bool:=decide (l.length≤30)&&allI l.length (timerAt l)
def Zk105:Con UU where
 α:=Int
 md:=[.ro]
 of:=o1 oI
 ds:=fun x=>[dI x]
 pre:=fun _=>[]
 res:=fun n=>⟨[.one (.lit (.bool (decide (0≤n∧n≤1000000000))))],true,[]⟩
 law:=l1 lI
def Za105:Zk105.α→Nat→Option (Ann UU):=fun n=>annL []
def Zu105:=us [Zh104]
theorem Zv105(n:Int):goal EE Zu105 Go.Proofs.Tryz.f105 Zk105 Za105 n=(Lb (decide ((0:Int)≤n∧n≤(1000000000:Int))) (decide ((0:Int)≤n∧n≤(1000000000:Int)))):=by kernel_rfl
theorem Zo105:Holds EE (105,Zk105):=by
 refine holds_of EE_ok Go.Proofs.Tryz.func105 Zk105 (by kernel_rfl) Zu105 (us_ok _) Za105 (fun(n:Int) hp hb=> ?_)
 have hl_n:=bdI (n:=n) (hb _ m0)
 clear hp hb
 rw[Zv105 n]
 exact Lf_rfl _
def Zh105:HH:=⟨_,Zo105⟩
def Zk171:Con UU where
 α:=DTimer
 md:=[.ro]
 of:=o1 (oA .eTimer)
 ds:=fun x=>[dA .eTimer x]
 pre:=fun _=>[]
 res:=fun x=>⟨[.one (.lit (.bool (timerOk x)))],true,[]⟩
 law:=l1 (lA .eTimer)
def Za171:Zk171.α→Nat→Option (Ann UU):=fun x=>annL []
def Zu171:=us [Zh105,Zh61]
theorem Zv171(x:DTimer):goal EE Zu171 Go.Proofs.Tryz.f171 Zk171 Za171 x=(bif decide ((0:Int)≤x.At∧x.At≤(1000000000:Int)) then Lb (factOk x.F) (timerOk x) else Lb false (timerOk x)):=by kernel_rfl
theorem Zo171:Holds EE (171,Zk171):=by
 refine holds_of EE_ok Go.Proofs.Tryz.func171 Zk171 (by kernel_rfl) Zu171 (us_ok _) Za171 (fun(x:DTimer) hp hb=> ?_)
 have hz0:=bd_eTimer (x:=x) (hb _ m0)
 have hl_x_F_Kind:=hz0.1
 have hl_x_F_Fields:=hz0.2
 clear hp hb
 rw[Zv171 x]
 simp only[timerOk]
 refine if_cond (fun h=>Lf_b ?_) (fun h=>Lf_b ?_)<;>grind
def Zh171:HH:=⟨_,Zo171⟩
def Zk151:Con UU where
 α:=DTimer
 md:=[.ro]
 of:=o1 (oA .eTimer)
 ds:=fun x=>[dA .eTimer x]
 pre:=fun _=>[]
 res:=fun x=>⟨[.one (.lit (.bool (timerOk x)))],true,[]⟩
 law:=l1 (lA .eTimer)
def Za151:Zk151.α→Nat→Option (Ann UU):=fun x=>annL []
def Zu151:=us [Zh81,Zh58]
theorem Zv151(x:DTimer):goal EE Zu151 Go.Proofs.Tryz.f151 Zk151 Za151 x=(bif decide ((0:Int)≤x.At∧x.At≤(1000000000:Int)) then Lb (factOk x.F) (timerOk x) else Lb false (timerOk x)):=by kernel_rfl
theorem Zo151:Holds EE (151,Zk151):=by
 refine holds_of EE_ok Go.Proofs.Tryz.func151 Zk151 (by kernel_rfl) Zu151 (us_ok _) Za151 (fun(x:DTimer) hp hb=> ?_)
 have hz0:=bd_eTimer (x:=x) (hb _ m0)
 have hl_x_F_Kind:=hz0.1
 have hl_x_F_Fields:=hz0.2
 clear hp hb
 rw[Zv151 x]
 simp only[timerOk]
 refine if_cond (fun h=>Lf_b ?_) (fun h=>Lf_b ?_)<;>grind
def Zh151:HH:=⟨_,Zo151⟩
def Zk102:Con UU where
 α:=(List DTimer)
 md:=[.ro]
 of:=o1 (oL .eTimer)
 ds:=fun x=>[dL .eTimer x]
 pre:=fun _=>[]
 res:=fun l=>⟨[.one (.lit (.bool (timersOk l)))],true,[]⟩
 law:=l1 (lL .eTimer)
def Zi102_4(l:(List DTimer)):Int×Unit→Prop:=fun(i,_)=>0≤i∧i≤l.length∧l.length≤30∧∀j:Nat,(j:Int)<i→timerAt l j=true
def Zm102_4(l:(List DTimer)):Int×Unit→Nat:=fun(i,_)=>l.length-i.toNat
def Za102:Zk102.α→Nat→Option (Ann UU):=fun l=>annL [(4,annOf [.slot 10 (10,1024) (.lit (.int .i64))] (fun _=>Zi102_4 l) (Zm102_4 l))]
def Zu102:=us [Zh171]
theorem Zv102(l:(List DTimer)):goal EE Zu102 Go.Proofs.Tryz.f102 Zk102 Za102 l=(let x0:Int:=(l.length:Int);
bif decide (x0>(30:Int)) then Lf [DV.one (Cell.lit (Value.bool false))] [DV.one (Cell.lit (Value.bool (timersOk l)))]
else
 Zi102_4 l ((0:Int),PUnit.unit)∧
  ∀(y:Int×PUnit),
   let x2:Nat:=Int.toNat (IntKind.wrap IntKind.i64 (y.1-(1:Int)));
   let x1:Int:=(List.getD l x2 zTimer).At;
   Zi102_4 l y→bif decide (y.1<x0) then(0:Int)≤y.1∧Int.toNat y.1<List.length l∧bif !timerOk (List.getD l (Int.toNat y.1) zTimer) then Lf [DV.one (Cell.lit (Value.bool false))] [DV.one (Cell.lit (Value.bool (timersOk l)))] else bif decide (y.1>(0:Int)) then(0:Int)≤IntKind.wrap IntKind.i64 (y.1-(1:Int))∧x2<List.length l∧bif decide (x1>(List.getD l (Int.toNat y.1) zTimer).At) then Lf [DV.one (Cell.lit (Value.bool false))] [DV.one (Cell.lit (Value.bool (timersOk l)))] else Zi102_4 l (IntKind.wrap IntKind.i64 (y.1+(1:Int)),PUnit.unit)∧Zm102_4 l (IntKind.wrap IntKind.i64 (y.1+(1:Int)),PUnit.unit)<Zm102_4 l y else Zi102_4 l (IntKind.wrap IntKind.i64 (y.1+(1:Int)),PUnit.unit)∧Zm102_4 l (IntKind.wrap IntKind.i64 (y.1+(1:Int)),PUnit.unit)<Zm102_4 l y else Lf [DV.one (Cell.lit (Value.bool true))] [DV.one (Cell.lit (Value.bool (timersOk l)))]):=by kernel_rfl
theorem Zo102:Holds EE (102,Zk102):=by
 refine holds_of EE_ok Go.Proofs.Tryz.func102 Zk102 (by kernel_rfl) Zu102 (us_ok _) Za102 (fun(l:(List DTimer)) hp hb=> ?_)
 have hl_l:l.length≤9223372036854775807:=bdL (hb _ m0)
 clear hp hb
 rw[Zv102 l]
 dsimp only
 refine if_cond (fun h=>Lf_ff ?_) (fun h=>⟨⟨by omega,by omega,by have h:=of_decide_eq_false h;omega,by intro j hj;omega⟩,?_⟩)
 ·have h:=of_decide_eq_true h;simp only[timersOk];rw[decide_eq_false (by omega)];rfl
 rintro⟨i,⟨⟩⟩ ⟨h1,h2,h3,hR⟩
 simp only
 refine if_cond (fun hc=> ?_) (fun hc=> ?_)
 ·have hc:=of_decide_eq_true hc
  have hN:timerAt l i.toNat=false→timersOk l=false:=fun h=>by
   have hf:allI l.length (timerAt l)=false:=allI_false (j:=i.toNat) (by omega) h
   simp only[timersOk,hf];simp
  simp(disch:=omega) only[wrap_i64]
  have e1:(i-1).toNat=i.toNat-1:=by omega
  simp only[e1]
  refine⟨by omega,by omega,if_cond (fun h=>Lf_ff (hN ?_)) (fun h=>if_cond (fun h'=>⟨by have:=of_decide_eq_true h';omega,by have:=of_decide_eq_true h';omega,if_cond (fun h''=>Lf_ff (hN ?_)) (fun h''=>⟨⟨by omega,by omega,h3,upto_step h1 hR ?_⟩,?_⟩)⟩) (fun h'=>⟨⟨by omega,by omega,h3,upto_step h1 hR ?_⟩,?_⟩))⟩
  all_goals (first|(simp only[Zm102_4];omega)|(simp only[timerAt];grind))
 ·have hc:=of_decide_eq_false hc
  have hA:allI l.length (timerAt l)=true:=allI_true fun j hj=>hR j (by omega)
  refine Lf_b ?_
  simp only[timersOk,hA];grind
def Zh102:HH:=⟨_,Zo102⟩
def Zk79:Con UU where
 α:=(List DTimer)
 md:=[.ro]
 of:=o1 (oL .eTimer)
 ds:=fun x=>[dL .eTimer x]
 pre:=fun _=>[]
 res:=fun l=>⟨[.one (.lit (.bool (timersOk l)))],true,[]⟩
 law:=l1 (lL .eTimer)
def Zi79_2(l:(List DTimer)):Int×Unit→Prop:=fun(i,_)=>0≤i∧i≤l.length∧∀j:Nat,(j:Int)<i→timerAt l j=true
def Zm79_2(l:(List DTimer)):Int×Unit→Nat:=fun(i,_)=>l.length-i.toNat
def Za79:Zk79.α→Nat→Option (Ann UU):=fun l=>annL [(2,annOf [.slot 3 (3,1024) (.lit (.int .i64))] (fun _=>Zi79_2 l) (Zm79_2 l))]
def Zu79:=us [Zh151]
theorem Zv79(l:(List DTimer)):goal EE Zu79 Go.Proofs.Tryz.f79 Zk79 Za79 l=(let x0:Int:=(l.length:Int);
Zi79_2 l ((0:Int),PUnit.unit)∧
 ∀(y:Int×PUnit),
  let x2:Nat:=Int.toNat (IntKind.wrap IntKind.i64 (y.1-(1:Int)));
  let x1:Int:=(List.getD l x2 zTimer).At;
  Zi79_2 l y→bif decide (y.1<x0) then(0:Int)≤y.1∧Int.toNat y.1<List.length l∧bif !timerOk (List.getD l (Int.toNat y.1) zTimer) then Lf [DV.one (Cell.lit (Value.bool false))] [DV.one (Cell.lit (Value.bool (timersOk l)))] else bif decide (y.1>(0:Int)) then(0:Int)≤IntKind.wrap IntKind.i64 (y.1-(1:Int))∧x2<List.length l∧(0:Int)≤y.1∧Int.toNat y.1<List.length l∧bif decide (x1>(List.getD l (Int.toNat y.1) zTimer).At) then Lf [DV.one (Cell.lit (Value.bool false))] [DV.one (Cell.lit (Value.bool (timersOk l)))] else Zi79_2 l (IntKind.wrap IntKind.i64 (y.1+(1:Int)),PUnit.unit)∧Zm79_2 l (IntKind.wrap IntKind.i64 (y.1+(1:Int)),PUnit.unit)<Zm79_2 l y else Zi79_2 l (IntKind.wrap IntKind.i64 (y.1+(1:Int)),PUnit.unit)∧Zm79_2 l (IntKind.wrap IntKind.i64 (y.1+(1:Int)),PUnit.unit)<Zm79_2 l y else Lf [DV.one (Cell.lit (Value.bool (decide (x0≤(30:Int)))))] [DV.one (Cell.lit (Value.bool (timersOk l)))]):=by kernel_rfl
theorem Zo79:Holds EE (79,Zk79):=by
 refine holds_of EE_ok Go.Proofs.Tryz.func79 Zk79 (by kernel_rfl) Zu79 (us_ok _) Za79 (fun(l:(List DTimer)) hp hb=> ?_)
 have hl_l:l.length≤9223372036854775807:=bdL (hb _ m0)
 clear hp hb
 rw[Zv79 l]
 dsimp only
 refine⟨⟨by omega,by omega,by intro j hj;omega⟩,?_⟩
 rintro⟨i,⟨⟩⟩ ⟨h1,h2,hR⟩
 simp only
 refine if_cond (fun hc=> ?_) (fun hc=> ?_)
 ·have hc:=of_decide_eq_true hc
  have hN:timerAt l i.toNat=false→timersOk l=false:=fun h=>by
   have hf:allI l.length (timerAt l)=false:=allI_false (j:=i.toNat) (by omega) h
   simp only[timersOk,hf];simp
  simp(disch:=omega) only[wrap_i64]
  have e1:(i-1).toNat=i.toNat-1:=by omega
  simp only[e1]
  refine⟨by omega,by omega,if_cond (fun h=>Lf_ff (hN ?_)) (fun h=>if_cond (fun h'=>⟨by have:=of_decide_eq_true h';omega,by have:=of_decide_eq_true h';omega,by omega,by omega,if_cond (fun h''=>Lf_ff (hN ?_)) (fun h''=>⟨⟨by omega,by omega,upto_step h1 hR ?_⟩,?_⟩)⟩) (fun h'=>⟨⟨by omega,by omega,upto_step h1 hR ?_⟩,?_⟩))⟩
  all_goals (first|(simp only[Zm79_2];omega)|(simp only[timerAt];grind))
 ·have hc:=of_decide_eq_false hc
  have hA:allI l.length (timerAt l)=true:=allI_true fun j hj=>hR j (by omega)
  refine Lf_b ?_
  simp only[timersOk,hA];grind
def Zh79:HH:=⟨_,Zo79⟩
def idxI(n:Nat)(p:Nat→Bool):Int:=match(List.range n).find? p with|some i=>i|none=> -1
def anyI(n:Nat)(p:Nat→Bool):Bool:=(List.range n).any p
theorem idxI_found{n i:Nat}{p:Nat→Bool}(h:i<n)(hp:p i=true)(hj:∀j,j<i→p j=false):idxI n p=i:=by
 have:(List.range n).find? p=some i:=by
  rw[List.find?_range_eq_some]
  exact⟨hp,zay.2 h,fun j hj'=>by simp[hj j hj']⟩
 simp[idxI,this]
theorem idxI_none{n:Nat}{p:Nat→Bool}(hj:∀j,j<n→p j=false):idxI n p= -1:=by
 have:(List.range n).find? p=none:=by
  rw[zeb]
  intro j hj'
  simp[hj j (zay.1 hj')]
 simp[idxI,this]
theorem idxI_cases(n:Nat)(p:Nat→Bool):(idxI n p= -1∧∀j,j<n→p j=false)∨∃i,i<n∧idxI n p=(i:Int)∧p i=true∧∀j,j<i→p j=false:=by
 cases h:(List.range n).find? p with
 |none=>
  refine .inl ⟨by simp[idxI,h],fun j hj=> ?_⟩
  have:=zeb.1 h j (zay.2 hj)
  simpa using this
 |some i=>
  rw[List.find?_range_eq_some] at h
  obtain⟨h1,h2,h3⟩:=h
  exact .inr ⟨i,zay.1 h2,idxI_found (zay.1 h2) h1 (fun j hj=>by simpa using h3 j hj),h1,fun j hj=>by simpa using h3 j hj⟩
theorem idxI_congr{n:Nat}{p q:Nat→Bool}(h:∀j,j<n→p j=q j):idxI n p=idxI n q:=by
 rcases idxI_cases n q with⟨h1,h2⟩|⟨i,h1,h2,h3,h4⟩
 ·rw[h1,idxI_none (fun j hj=>by rw[h j hj,h2 j hj])]
 ·rw[h2,idxI_found h1 (by rw[h i h1,h3]) (fun j hj=>by rw[h j (by omega),h4 j hj])]
theorem anyI_true{n j:Nat}{p:Nat→Bool}(h:j<n)(hp:p j=true):anyI n p=true:=by
 simp only[anyI,zbb,zay]
 exact⟨j,h,hp⟩
theorem anyI_false{n:Nat}{p:Nat→Bool}(h:∀j,j<n→p j=false):anyI n p=false:=by
 simp only[anyI,List.any_eq_false,zay]
 exact fun j hj=>by simp[h j hj]
theorem anyI_iff{n:Nat}{p:Nat→Bool}:anyI n p=true↔∃j,j<n∧p j=true:=by
 simp only[anyI,zbb,zay]
theorem anyI_not{n:Nat}{p:Nat→Bool}:anyI n p=false↔∀j,j<n→p j=false:=by
 simp only[anyI,List.any_eq_false,zay,zbj]
theorem allI_iff{n:Nat}{p:Nat→Bool}:allI n p=true↔∀j,j<n→p j=true:=by
 simp only[allI,zcb,zay]
theorem anyI_congr{n:Nat}{p q:Nat→Bool}(h:∀j,j<n→p j=q j):anyI n p=anyI n q:=by
 rw[zcm,anyI_iff,anyI_iff]
 exact⟨fun⟨j,h1,h2⟩=>⟨j,h1,by rw[←h j h1];exact h2⟩,fun⟨j,h1,h2⟩=>⟨j,h1,by rw[h j h1];exact h2⟩⟩
theorem idxI_ge{n:Nat}{p:Nat→Bool}:decide (0≤idxI n p)=anyI n p:=by
 rcases idxI_cases n p with⟨h1,h2⟩|⟨i,h1,h2,h3,h4⟩
 ·rw[h1,anyI_false h2];rfl
 ·rw[h2,anyI_true h1 h3];simp
theorem getD_take{α:Type}(l:List α)(z:α){i j:Nat}(h:j<i):List.getD (l.take i) j z=List.getD l j z:=by
 rw[zac,zac,zan,if_pos h]
theorem closP_of{k:Con UU}{caps:List (DV UU)}{ds:List (DA UU)}{x:k.α}{v:Value}(h:k.of (ds.map DA.dv++caps)=some x)(hv:(k.res x).val=[.one (.lit v)])(hm:(k.res x).muts=[])
  (hl:k.md.length=ds.length+caps.length) (hp:∀p∈k.pre x,p):closP k caps ds=some v:=by
 unfold closP
 simp only[h,hv,hm]
 rw[if_pos ⟨hl,hp⟩]
theorem val_beq(a b:DVal):(a.K==b.K&&(a.N==b.N&&(ByteArray.toList a.S==ByteArray.toList b.S&&true)))=decide (a=b):=by
 obtain⟨K,N,S⟩:=a
 obtain⟨K',N',S'⟩:=b
 simp only[toList_beq,zdb]
 rw[zcm]
 simp only[zaf,beq_iff_eq,decide_eq_true_eq,DVal.mk.injEq]
theorem upto_no{i:Int}{p:Nat→Bool}(h0:0≤i)(h:∀j:Nat,(j:Int)<i→p j=false)(hi:p i.toNat=false):∀j:Nat,(j:Int)<i+1→p j=false:=by
 intro j hj
 by_cases hji:(j:Int)<i
 ·exact h j hji
 ·have:j=i.toNat:=by omega
  subst this;exact hi
def daUndo(x:DUndo):DA UU:=⟨true,[.lit (.string x.Key),.lit (.string x.F.Kind),.sl .eVal x.F.Fields]⟩
def undoAt(l:List DUndo)(i:Nat):Bool:=decide (1≤(List.getD l i zUndo).Key.size∧(List.getD l i zUndo).Key.size≤200)&&factOk (List.getD l i zUndo).F&& !(anyI i fun k=>decide ((List.getD l k zUndo).Key=(List.getD l i zUndo).Key))
def undosOk(l:List DUndo):Bool:=decide (l.length≤30)&&allI l.length (undoAt l)
def hasKey(l:List DUndo)(key:ByteArray):Bool:=anyI l.length fun k=>decide ((List.getD l k zUndo).Key=key)
def Zk249:Con UU where
 α:=(List DUndo)×(List (DA UU)→Option Value)
 md:=[.ro,.ro]
 of:=oC (oL .eUndo) (o1 oF)
 ds:=fun x=>[dL .eUndo x.1,dF x.2]
 pre:=fun(l,p)=>[∀j:Nat,j<l.length→p [daUndo (List.getD l j zUndo)]=some (.bool (boolOf (p [daUndo (List.getD l j zUndo)])))]
 res:=fun(l,p)=>⟨[.one (.lit (.int .i64 (idxI l.length (fun j=>boolOf (p [daUndo (List.getD l j zUndo)])))))],true,[]⟩
 law:=lC (lL .eUndo) (l1 lF)
def Zi249_2(l:(List DUndo))(p:(List (DA UU)→Option Value)):Int×Unit→Prop:=fun(i,_)=>0≤i∧i≤l.length∧∀j:Nat,(j:Int)<i→boolOf (p [daUndo (List.getD l j zUndo)])=false
def Zm249_2(l:(List DUndo))(p:(List (DA UU)→Option Value)):Int×Unit→Nat:=fun(i,_)=>l.length-i.toNat
def Za249:Zk249.α→Nat→Option (Ann UU):=fun(l,p)=>annL [(2,annOf [.slot 8 (8,1024) (.lit (.int .i64))] (fun _=>Zi249_2 l p) (Zm249_2 l p))]
def Zu249:List (FuncId×Con UU):=[]
theorem Zv249(l:(List DUndo))(p:(List (DA UU)→Option Value)):goal EE Zu249 Go.Proofs.Tryz.f249 Zk249 Za249 (l,p)=(Zi249_2 l p ((0:Int),())∧
 ∀(y:Int×PUnit),
  let x0:Bool:=boolOf (p [{agg:=true,cs:=[Cell.lit (Value.string (List.getD l (Int.toNat y.1) zUndo).Key),Cell.lit (Value.string (List.getD l (Int.toNat y.1) zUndo).F.Kind),Cell.sl Cd.eVal (List.getD l (Int.toNat y.1) zUndo).F.Fields]:DA UU}]);
  Zi249_2 l p y→bif decide (y.1<(↑(List.length l):Int)) then(0:Int)≤y.1∧Int.toNat y.1<List.length l∧p [{agg:=true,cs:=[Cell.lit (Value.string (List.getD l (Int.toNat y.1) zUndo).Key),Cell.lit (Value.string (List.getD l (Int.toNat y.1) zUndo).F.Kind),Cell.sl Cd.eVal (List.getD l (Int.toNat y.1) zUndo).F.Fields]:DA UU}]=some (Value.bool x0)∧bif x0 then Lf [DV.one (Cell.lit (Value.int IntKind.i64 y.1))] [DV.one (Cell.lit (Value.int IntKind.i64 (idxI (List.length l) fun(j:Nat)=>boolOf (p [daUndo (List.getD l j zUndo)]))))] else Zi249_2 l p (IntKind.wrap IntKind.i64 (y.1+(1:Int)),PUnit.unit)∧Zm249_2 l p (IntKind.wrap IntKind.i64 (y.1+(1:Int)),PUnit.unit)<Zm249_2 l p y else Lf [DV.one (Cell.lit (Value.int IntKind.i64 (-1:Int)))] [DV.one (Cell.lit (Value.int IntKind.i64 (idxI (List.length l) fun(j:Nat)=>boolOf (p [daUndo (List.getD l j zUndo)]))))]):=by kernel_rfl
theorem Zo249:Holds EE (249,Zk249):=by
 refine holds_of EE_ok Go.Proofs.Tryz.func249 Zk249 (by kernel_rfl) Zu249 all_nil Za249 (fun x hp hb=> ?_)
 obtain⟨l,p⟩:=x
 have hl_l:l.length≤9223372036854775807:=bdL (hb _ m0)
 have hp0:∀j:Nat,j<l.length→p [daUndo (List.getD l j zUndo)]=some (.bool (boolOf (p [daUndo (List.getD l j zUndo)]))):=hp _ m0
 clear hp hb
 rw[Zv249 l p]
 dsimp only
 refine⟨⟨by omega,by omega,by intro j hj;omega⟩,?_⟩
 rintro⟨i,⟨⟩⟩ ⟨h1,h2,hR⟩
 simp only[daUndo] at*
 refine if_cond (fun hc=> ?_) (fun hc=> ?_)
 ·have hc:=of_decide_eq_true hc
  rw[wrap_i64 (by omega) (by omega)]
  refine⟨by omega,by omega,hp0 i.toNat (by omega),if_cond (fun h=>Lf_i ?_) (fun h=>⟨⟨by omega,by omega,upto_no (p:=fun j=>boolOf (p [daUndo (List.getD l j zUndo)])) h1 hR h⟩,by simp only[Zm249_2];omega⟩)⟩
  rw[idxI_found (i:=i.toNat) (by omega) h (fun j hj=>hR j (by omega))]
  omega
 ·have hc:=of_decide_eq_false hc
  exact Lf_i (idxI_none (fun j hj=>hR j (by omega))).symm
def Zh249:HH:=⟨_,Zo249⟩
def Zk224:Con UU where
 α:=(List DUndo)×(List (DA UU)→Option Value)
 md:=[.ro,.ro]
 of:=oC (oL .eUndo) (o1 oF)
 ds:=fun x=>[dL .eUndo x.1,dF x.2]
 pre:=fun(l,p)=>[∀j:Nat,j<l.length→p [daUndo (List.getD l j zUndo)]=some (.bool (boolOf (p [daUndo (List.getD l j zUndo)])))]
 res:=fun(l,p)=>⟨[.one (.lit (.bool (anyI l.length (fun j=>boolOf (p [daUndo (List.getD l j zUndo)])))))],true,[]⟩
 law:=lC (lL .eUndo) (l1 lF)
def Za224:Zk224.α→Nat→Option (Ann UU):=fun(l,p)=>annL []
def Zu224:=us [Zh249]
theorem Zv224(l:(List DUndo))(p:(List (DA UU)→Option Value)):goal EE Zu224 Go.Proofs.Tryz.f224 Zk224 Za224 (l,p)=(let x0:Int:=idxI (l.length) fun(j:Nat)=>boolOf (p [daUndo (List.getD l j zUndo)]);
(∀(j:Nat),j<List.length l→p [daUndo (List.getD l j zUndo)]=some (Value.bool (boolOf (p [daUndo (List.getD l j zUndo)]))))∧Lf [DV.one (Cell.lit (Value.bool (decide (x0≥(0:Int)))))] [DV.one (Cell.lit (Value.bool (anyI (List.length l) fun(j:Nat)=>boolOf (p [daUndo (List.getD l j zUndo)]))))]):=by kernel_rfl
theorem Zo224:Holds EE (224,Zk224):=by
 refine holds_of EE_ok Go.Proofs.Tryz.func224 Zk224 (by kernel_rfl) Zu224 (us_ok _) Za224 (fun x hp hb=> ?_)
 obtain⟨l,p⟩:=x
 have hl_l:l.length≤9223372036854775807:=bdL (hb _ m0)
 have hp0:∀j:Nat,j<l.length→p [daUndo (List.getD l j zUndo)]=some (.bool (boolOf (p [daUndo (List.getD l j zUndo)]))):=hp _ m0
 clear hp hb
 rw[Zv224 l p]
 dsimp only
 exact⟨hp0,Lf_b (by rw[←idxI_ge])⟩
def Zh224:HH:=⟨_,Zo224⟩
def Zk172:Con UU where
 α:=ByteArray
 md:=[.ro]
 of:=o1 oS
 ds:=fun x=>[dS x]
 pre:=fun _=>[]
 res:=fun s=>⟨[.one (.lit (.bool (decide (1≤s.size∧s.size≤200))))],true,[]⟩
 law:=l1 lS
def Za172:Zk172.α→Nat→Option (Ann UU):=fun s=>annL []
def Zu172:=us [Zh104]
theorem Zv172(s:ByteArray):goal EE Zu172 Go.Proofs.Tryz.f172 Zk172 Za172 s=(Lb (decide ((1:Int)≤(↑(ByteArray.size s):Int)∧(↑(ByteArray.size s):Int)≤(200:Int))) (decide ((1:Nat)≤ByteArray.size s∧ByteArray.size s≤(200:Nat)))):=by kernel_rfl
theorem Zo172:Holds EE (172,Zk172):=by
 refine holds_of EE_ok Go.Proofs.Tryz.func172 Zk172 (by kernel_rfl) Zu172 (us_ok _) Za172 (fun(s:ByteArray) hp hb=> ?_)
 have hl_s:=bdS (s:=s) (hb _ m0)
 clear hp hb
 rw[Zv172 s]
 refine Lf_b ?_
 rw[decide_eq_decide];omega
def Zh172:HH:=⟨_,Zo172⟩
def Zk225:Con UU where
 α:=DUndo×ByteArray
 md:=[.ro,.ro]
 of:=fun|[.agg [.lit (.string a0),.lit (.string a1),.sl .eVal a2],.ptr [.lit (.string a3)]]=>some (⟨a0,⟨a1,a2⟩⟩,a3)|_=>none
 ds:=fun(x,c)=>[.agg [.lit (.string x.Key),.lit (.string x.F.Kind),.sl .eVal x.F.Fields],.ptr [.lit (.string c)]]
 pre:=fun(x,c)=>[]
 res:=fun(x,c)=>⟨[.one (.lit (.bool (decide (x.Key=c))))],true,[]⟩
 law:=by intro l x h;(try simp only at h);split at h<;>cases h;rfl
def Za225:Zk225.α→Nat→Option (Ann UU):=fun(x,c)=>annL []
def Zu225:List (FuncId×Con UU):=[]
theorem Zv225(x:DUndo)(c:ByteArray):goal EE Zu225 Go.Proofs.Tryz.f225 Zk225 Za225 (x,c)=(Lb (ByteArray.toList x.Key==ByteArray.toList c) (decide (x.Key=c))):=by kernel_rfl
theorem Zo225:Holds EE (225,Zk225):=by
 refine holds_of EE_ok Go.Proofs.Tryz.func225 Zk225 (by kernel_rfl) Zu225 all_nil Za225 (fun x hp hb=> ?_)
 obtain⟨x,c⟩:=x
 have hb_x:BdDV (U:=UU) (.agg [.lit (.string x.Key),.lit (.string x.F.Kind),.sl .eVal x.F.Fields]):=hb _ (zab)
 have hl_x_Key:x.Key.size≤9223372036854775807:=Bd.str (hb_x _ (by simp))
 have hl_x_F_Kind:x.F.Kind.size≤9223372036854775807:=Bd.str (hb_x _ (by simp))
 have hl_x_F_Fields:x.F.Fields.length≤9223372036854775807:=Bd.len (U:=UU) (τ:=.eVal) (xs:=x.F.Fields) (hb_x _ (by simp))
 have hb_c:BdDV (U:=UU) (.ptr [.lit (.string c)]):=hb _ (zaa _ (zab))
 have hl_c:c.size≤9223372036854775807:=Bd.str (hb_c _ (by simp))
 clear hp hb
 rw[Zv225 x c]
 rw[toList_beq]
 exact Lf_rfl _
def Zh225:HH:=⟨_,Zo225⟩
def Zk173:Con UU where
 α:=(List DUndo)×ByteArray
 md:=[.ro,.ro]
 of:=oC (oL .eUndo) (o1 oS)
 ds:=fun x=>[dL .eUndo x.1,dS x.2]
 pre:=fun _=>[]
 res:=fun(l,key)=>⟨[.one (.lit (.bool (hasKey l key)))],true,[]⟩
 law:=lC (lL .eUndo) (l1 lS)
def Za173:Zk173.α→Nat→Option (Ann UU):=fun(l,key)=>annL []
def Zu173:=us [Zh224,Zh225]
theorem Zv173(l:(List DUndo))(key:ByteArray):goal EE Zu173 Go.Proofs.Tryz.f173 Zk173 Za173 (l,key)=((∀(j:Nat),j<l.length→closP Zk225 [DV.ptr [Cell.lit (Value.string key)]] [daUndo (List.getD l j zUndo)]=some (Value.bool (boolOf (closP Zk225 [DV.ptr [Cell.lit (Value.string key)]] [daUndo (List.getD l j zUndo)]))))∧Lb (anyI (l.length) fun(j:Nat)=>boolOf (closP Zk225 [DV.ptr [Cell.lit (Value.string key)]] [daUndo (List.getD l j zUndo)])) (hasKey l key)):=by kernel_rfl
theorem Zo173:Holds EE (173,Zk173):=by
 refine holds_of EE_ok Go.Proofs.Tryz.func173 Zk173 (by kernel_rfl) Zu173 (us_ok _) Za173 (fun x hp hb=> ?_)
 obtain⟨l,key⟩:=x
 have hl_l:l.length≤9223372036854775807:=bdL (hb _ m0)
 have hl_key:=bdS (s:=key) (hb _ m1)
 clear hp hb
 rw[Zv173 l key]
 have hc:∀x:DUndo,closP Zk225 [.ptr [.lit (.string key)]] [daUndo x]=some (.bool (decide (x.Key=key))):=fun x=>closP_of (x:=(x,key)) rfl rfl rfl rfl (by simp[Zk225])
 refine⟨fun j hj=> ?_,Lf_b ?_⟩
 ·show closP Zk225 [.ptr [.lit (.string key)]] [daUndo (List.getD l j zUndo)]=_
  rw[hc];rfl
 ·exact anyI_congr fun j hj=>by
   show boolOf (closP Zk225 [.ptr [.lit (.string key)]] [daUndo (List.getD l j zUndo)])=_
   rw[hc];rfl
def Zh173:HH:=⟨_,Zo173⟩
def Zk103:Con UU where
 α:=(List DUndo)
 md:=[.ro]
 of:=o1 (oL .eUndo)
 ds:=fun x=>[dL .eUndo x]
 pre:=fun _=>[]
 res:=fun l=>⟨[.one (.lit (.bool (undosOk l)))],true,[]⟩
 law:=l1 (lL .eUndo)
def Zi103_4(l:(List DUndo)):Int×Unit→Prop:=fun(i,_)=>0≤i∧i≤l.length∧l.length≤30∧∀j:Nat,(j:Int)<i→undoAt l j=true
def Zm103_4(l:(List DUndo)):Int×Unit→Nat:=fun(i,_)=>l.length-i.toNat
def Za103:Zk103.α→Nat→Option (Ann UU):=fun l=>annL [(4,annOf [.slot 10 (10,1024) (.lit (.int .i64))] (fun _=>Zi103_4 l) (Zm103_4 l))]
def Zu103:=us [Zh172,Zh61,Zh173]
theorem Zv103(l:(List DUndo)):goal EE Zu103 Go.Proofs.Tryz.f103 Zk103 Za103 l=(let x0:Int:=(l.length:Int);
let x1:Int:=Option.getD none (0:Int);
bif decide (x0>(30:Int)) then Lf [DV.one (Cell.lit (Value.bool false))] [DV.one (Cell.lit (Value.bool (undosOk l)))]
else
 Zi103_4 l ((0:Int),PUnit.unit)∧
  ∀(y:Int×PUnit),
   let x2:Int:=Option.getD (some y.1) x0;
   Zi103_4 l y→bif decide (y.1<x0) then(0:Int)≤y.1∧Int.toNat y.1<List.length l∧bif !decide ((1:Nat)≤ByteArray.size (List.getD l (Int.toNat y.1) zUndo).Key∧ByteArray.size (List.getD l (Int.toNat y.1) zUndo).Key≤(200:Nat)) then Lf [DV.one (Cell.lit (Value.bool false))] [DV.one (Cell.lit (Value.bool (undosOk l)))] else bif !factOk (List.getD l (Int.toNat y.1) zUndo).F then Lf [DV.one (Cell.lit (Value.bool false))] [DV.one (Cell.lit (Value.bool (undosOk l)))] else(0:Int)≤x1∧x1≤x2∧x2≤x0∧bif hasKey (List.drop (Int.toNat x1) (List.take (Int.toNat x2) l)) (List.getD l (Int.toNat y.1) zUndo).Key then Lf [DV.one (Cell.lit (Value.bool false))] [DV.one (Cell.lit (Value.bool (undosOk l)))] else Zi103_4 l (IntKind.wrap IntKind.i64 (y.1+(1:Int)),PUnit.unit)∧Zm103_4 l (IntKind.wrap IntKind.i64 (y.1+(1:Int)),PUnit.unit)<Zm103_4 l y else Lf [DV.one (Cell.lit (Value.bool true))] [DV.one (Cell.lit (Value.bool (undosOk l)))]):=by kernel_rfl
theorem Zo103:Holds EE (103,Zk103):=by
 refine holds_of EE_ok Go.Proofs.Tryz.func103 Zk103 (by kernel_rfl) Zu103 (us_ok _) Za103 (fun(l:(List DUndo)) hp hb=> ?_)
 have hl_l:l.length≤9223372036854775807:=bdL (hb _ m0)
 clear hp hb
 rw[Zv103 l]
 dsimp only
 refine if_cond (fun h=>Lf_ff ?_) (fun h=>⟨⟨by omega,by omega,by have h:=of_decide_eq_false h;omega,by intro j hj;omega⟩,?_⟩)
 ·have h:=of_decide_eq_true h;simp only[undosOk];rw[decide_eq_false (by omega)];rfl
 rintro⟨i,⟨⟩⟩ ⟨h1,h2,h3,hR⟩
 simp only
 refine if_cond (fun hc=> ?_) (fun hc=> ?_)
 ·have hc:=of_decide_eq_true hc
  have hN:undoAt l i.toNat=false→undosOk l=false:=fun h=>by
   have hf:allI l.length (undoAt l)=false:=allI_false (j:=i.toNat) (by omega) h
   simp only[undosOk,hf];simp
  have hk:hasKey (List.drop (Int.toNat 0) (List.take i.toNat l)) (List.getD l i.toNat zUndo).Key=anyI i.toNat fun k=>decide ((List.getD l k zUndo).Key=(List.getD l i.toNat zUndo).Key):=by
   show anyI _ _=_
   have e:(List.take i.toNat l).length=i.toNat:=by rw[zaw];omega
   rw[show Int.toNat 0=0 from rfl,List.drop_zero,e]
   exact anyI_congr fun j hj=>by rw[getD_take l zUndo hj]
  simp only[zdf,zcj,hk]
  simp(disch:=omega) only[wrap_i64]
  have hm:Zm103_4 l (i+1,PUnit.unit)<Zm103_4 l (i,()):=by simp only[Zm103_4];omega
  refine⟨by omega,by omega,if_cond (fun h=>Lf_ff (hN ?_)) (fun h=>if_cond (fun h'=>Lf_ff (hN ?_)) (fun h'=>⟨by omega,by omega,by omega,if_cond (fun h''=>Lf_ff (hN ?_)) (fun h''=>⟨⟨by omega,by omega,h3,upto_step h1 hR ?_⟩,hm⟩)⟩))⟩
  all_goals (simp only[undoAt];grind)
 ·have hc:=of_decide_eq_false hc
  have hA:allI l.length (undoAt l)=true:=allI_true fun j hj=>hR j (by omega)
  refine Lf_b ?_
  simp only[undosOk,hA];grind
def Zh103:HH:=⟨_,Zo103⟩
def Zk80:Con UU where
 α:=(List DUndo)
 md:=[.ro]
 of:=o1 (oL .eUndo)
 ds:=fun x=>[dL .eUndo x]
 pre:=fun _=>[]
 res:=fun l=>⟨[.one (.lit (.bool (undosOk l)))],true,[]⟩
 law:=l1 (lL .eUndo)
def Zi80_2(l:(List DUndo)):Int×Unit→Prop:=fun(i,_)=>0≤i∧i≤l.length∧∀j:Nat,(j:Int)<i→undoAt l j=true
def Zm80_2(l:(List DUndo)):Int×Unit→Nat:=fun(i,_)=>l.length-i.toNat
def Zi80_7(l:(List DUndo)):Int×Int×Unit→Int×Int×Unit→Prop:=fun(i0,k0,_) (i,k,_)=>i=i0∧0≤k∧k≤i∧∀j:Nat,(j:Int)<k→decide ((List.getD l j zUndo).Key=(List.getD l i.toNat zUndo).Key)=false
def Zm80_7(l:(List DUndo)):Int×Int×Unit→Nat:=fun(i,k,_)=>i.toNat-k.toNat
def Za80:Zk80.α→Nat→Option (Ann UU):=fun l=>annL [(2,annOf [.slot 3 (3,1024) (.lit (.int .i64))] (fun _=>Zi80_2 l) (Zm80_2 l)),(7,annOf [.slot 3 (3,1024) (.lit (.int .i64)),.slot 4 (4,1024) (.lit (.int .i64))] (Zi80_7 l) (Zm80_7 l))]
def Zu80:=us [Zh81,Zh58]
theorem Zv80(l:(List DUndo)):goal EE Zu80 Go.Proofs.Tryz.f80 Zk80 Za80 l=(let x0:Int:=(l.length:Int);
Zi80_2 l ((0:Int),PUnit.unit)∧
 ∀(y:Int×PUnit),
  Zi80_2 l y→
   bif decide (y.1<x0) then
    (0:Int)≤y.1∧
     Int.toNat y.1<List.length l∧
      bif !decide ((1:Int)≤(↑(ByteArray.size (List.getD l (Int.toNat y.1) zUndo).Key):Int)∧(↑(ByteArray.size (List.getD l (Int.toNat y.1) zUndo).Key):Int)≤(200:Int)) then Lf [DV.one (Cell.lit (Value.bool false))] [DV.one (Cell.lit (Value.bool (undosOk l)))]
      else
       (0:Int)≤y.1∧
        Int.toNat y.1<List.length l∧
         bif !factOk (List.getD l (Int.toNat y.1) zUndo).F then Lf [DV.one (Cell.lit (Value.bool false))] [DV.one (Cell.lit (Value.bool (undosOk l)))]
         else
          Zi80_7 l (y.1,(0:Int),PUnit.unit) (y.1,(0:Int),PUnit.unit)∧
           ∀(y_1:Int×Int×PUnit),
            let x1:Nat:=Int.toNat y_1.2.1;
            Zi80_7 l (y.1,(0:Int),PUnit.unit) y_1→bif decide (y_1.2.1<y_1.1) then(0:Int)≤y_1.1∧Int.toNat y_1.1<List.length l∧(0:Int)≤y_1.2.1∧x1<List.length l∧bif ByteArray.toList (List.getD l (Int.toNat y_1.1) zUndo).Key==ByteArray.toList (List.getD l x1 zUndo).Key then Lf [DV.one (Cell.lit (Value.bool false))] [DV.one (Cell.lit (Value.bool (undosOk l)))] else Zi80_7 l (y.1,(0:Int),PUnit.unit) (y_1.1,IntKind.wrap IntKind.i64 (y_1.2.1+(1:Int)),PUnit.unit)∧Zm80_7 l (y_1.1,IntKind.wrap IntKind.i64 (y_1.2.1+(1:Int)),PUnit.unit)<Zm80_7 l y_1 else Zi80_2 l (IntKind.wrap IntKind.i64 (y_1.1+(1:Int)),PUnit.unit)∧Zm80_2 l (IntKind.wrap IntKind.i64 (y_1.1+(1:Int)),PUnit.unit)<Zm80_2 l y
   else Lf [DV.one (Cell.lit (Value.bool (decide (x0≤(30:Int)))))] [DV.one (Cell.lit (Value.bool (undosOk l)))]):=by kernel_rfl
theorem Zo80:Holds EE (80,Zk80):=by
 refine holds_of EE_ok Go.Proofs.Tryz.func80 Zk80 (by kernel_rfl) Zu80 (us_ok _) Za80 (fun(l:(List DUndo)) hp hb=> ?_)
 have hl_l:l.length≤9223372036854775807:=bdL (hb _ m0)
 clear hp hb
 rw[Zv80 l]
 dsimp only
 refine⟨⟨by omega,by omega,by intro j hj;omega⟩,?_⟩
 rintro⟨i,⟨⟩⟩ ⟨h1,h2,hR⟩
 simp only
 refine if_cond (fun hc=> ?_) (fun hc=> ?_)
 ·have hc:=of_decide_eq_true hc
  have hN:undoAt l i.toNat=false→undosOk l=false:=fun h=>by
   have hf:allI l.length (undoAt l)=false:=allI_false (j:=i.toNat) (by omega) h
   simp only[undosOk,hf];simp
  have hm:Zm80_2 l (i+1,PUnit.unit)<Zm80_2 l (i,()):=by simp only[Zm80_2];omega
  refine⟨by omega,by omega,if_cond (fun h=>Lf_ff (hN ?_)) (fun h=>⟨by omega,by omega,if_cond (fun h'=>Lf_ff (hN ?_)) (fun h'=>⟨⟨rfl,by omega,by omega,by intro j hj;omega⟩,?_⟩)⟩)⟩
  ·simp only[undoAt];grind
  ·simp only[undoAt];grind
  rintro⟨i,k,⟨⟩⟩ ⟨rfl,g1,g2,gR⟩
  simp only
  refine if_cond (fun hk=> ?_) (fun hk=> ?_)
  ·have hk:=of_decide_eq_true hk
   simp(disch:=omega) only[wrap_i64,toList_beq]
   refine⟨by omega,by omega,by omega,by omega,if_cond (fun h''=>Lf_ff (hN ?_)) (fun h''=>⟨⟨rfl,by omega,by omega,upto_no g1 gR ?_⟩,by simp only[Zm80_7];omega⟩)⟩
   ·have ha:(anyI i.toNat fun k=>decide ((List.getD l k zUndo).Key=(List.getD l i.toNat zUndo).Key))=true:=anyI_true (j:=k.toNat) (by omega) (by grind)
    simp only[undoAt,ha];simp
   ·grind
  ·have hk:=of_decide_eq_false hk
   simp(disch:=omega) only[wrap_i64]
   refine⟨⟨by omega,by omega,upto_step h1 hR ?_⟩,hm⟩
   have ha:(anyI i.toNat fun k=>decide ((List.getD l k zUndo).Key=(List.getD l i.toNat zUndo).Key))=false:=anyI_false fun j hj=>gR j (by omega)
   simp only[undoAt,ha];grind
 ·have hc:=of_decide_eq_false hc
  have hA:allI l.length (undoAt l)=true:=allI_true fun j hj=>hR j (by omega)
  refine Lf_b ?_
  simp only[undosOk,hA];grind
def Zh80:HH:=⟨_,Zo80⟩
def undoLast(l:List DUndo):DFact:=if l=[] then zFact else(List.getD l (l.length-1) zUndo).F
def Zk210:Con UU where
 α:=(List DVal)
 md:=[.ro]
 of:=o1 (oL .eVal)
 ds:=fun x=>[dL .eVal x]
 pre:=fun l=>[l.length≤4294967296]
 res:=fun l=>⟨[.one (.sl .eVal l)],true,[]⟩
 law:=l1 (lL .eVal)
def Za210:Zk210.α→Nat→Option (Ann UU):=fun l=>annL []
def Zu210:List (FuncId×Con UU):=[]
theorem Zv210(l:(List DVal)):goalN EE Zu210 Go.Proofs.Tryz.f210 Zk210 Za210 l .eVal l false=((0:Nat)+l.length≤(4294967296:Nat)∧Lf [DV.one (Cell.sl Cd.eVal ([]++l))] [DV.one (Cell.sl Cd.eVal l)]):=by kernel_rfl
theorem Zw210:goalN EE Zu210 Go.Proofs.Tryz.f210 Zk210 Za210 [] .eVal [] true=(Lf [DV.one (Cell.sl Cd.eVal [])] [DV.one (Cell.sl Cd.eVal [])]):=by kernel_rfl
theorem Zx210:goalN EE Zu210 Go.Proofs.Tryz.f210 Zk210 Za210 [] .eVal [] true:=by
 rw[Zw210]
 exact Lf_rfl _
theorem Zo210:Holds EE (210,Zk210):=by
 refine holds_ofN EE_ok Go.Proofs.Tryz.func210 Zk210 (by kernel_rfl) rfl .eVal (fun x=>x) (fun _=>rfl) Zu210 all_nil Za210 (fun(l:(List DVal)) hp hb=> ?_)
 have hl_l:l.length≤9223372036854775807:=bdL (hb _ m0)
 have hp0:l.length≤4294967296:=hp _ m0
 clear hp hb
 refine⟨?_,fun h0=> ?_⟩
 rotate_left
 ·subst h0;exact Zx210
 rw[Zv210 l]
 exact⟨by simp;omega,Lf_rfl _⟩
def Zh210:HH:=⟨_,Zo210⟩
def Zk145:Con UU where
 α:=DFact
 md:=[.ro]
 of:=o1 (oA .eFact)
 ds:=fun x=>[dA .eFact x]
 pre:=fun f=>[f.Fields.length≤4294967296]
 res:=fun f=>⟨[.agg [.lit (.string f.Kind),.sl .eVal f.Fields]],true,[]⟩
 law:=l1 (lA .eFact)
def Za145:Zk145.α→Nat→Option (Ann UU):=fun f=>annL []
def Zu145:List (FuncId×Con UU):=[]
theorem Zv145(f:DFact):goal EE Zu145 Go.Proofs.Tryz.f145 Zk145 Za145 f=((0:Nat)+f.Fields.length≤(4294967296:Nat)∧Lf [DV.agg [Cell.lit (Value.string f.Kind),Cell.sl Cd.eVal ([]++f.Fields)]] [DV.agg [Cell.lit (Value.string f.Kind),Cell.sl Cd.eVal f.Fields]]):=by kernel_rfl
theorem Zo145:Holds EE (145,Zk145):=by
 refine holds_of EE_ok Go.Proofs.Tryz.func145 Zk145 (by kernel_rfl) Zu145 all_nil Za145 (fun(f:DFact) hp hb=> ?_)
 have hz0:=bd_eFact (x:=f) (hb _ m0)
 have hl_f_Kind:=hz0.1
 have hl_f_Fields:=hz0.2
 have hp0:f.Fields.length≤4294967296:=hp _ m0
 clear hp hb
 rw[Zv145 f]
 exact⟨by simp;omega,Lf_rfl _⟩
def Zh145:HH:=⟨_,Zo145⟩
def Zk164:Con UU where
 α:=DFact
 md:=[.ro]
 of:=o1 (oA .eFact)
 ds:=fun x=>[dA .eFact x]
 pre:=fun f=>[f.Fields.length≤4294967296]
 res:=fun f=>⟨[.agg [.lit (.string f.Kind),.sl .eVal f.Fields]],true,[]⟩
 law:=l1 (lA .eFact)
def Za164:Zk164.α→Nat→Option (Ann UU):=fun f=>annL []
def Zu164:=us [Zh210]
theorem Zv164(f:DFact):goal EE Zu164 Go.Proofs.Tryz.f164 Zk164 Za164 f=(f.Fields.length≤(4294967296:Nat)∧Lf [DV.agg [Cell.lit (Value.string f.Kind),Cell.sl Cd.eVal f.Fields]] [DV.agg [Cell.lit (Value.string f.Kind),Cell.sl Cd.eVal f.Fields]]):=by kernel_rfl
theorem Zo164:Holds EE (164,Zk164):=by
 refine holds_of EE_ok Go.Proofs.Tryz.func164 Zk164 (by kernel_rfl) Zu164 (us_ok _) Za164 (fun(f:DFact) hp hb=> ?_)
 have hz0:=bd_eFact (x:=f) (hb _ m0)
 have hl_f_Kind:=hz0.1
 have hl_f_Fields:=hz0.2
 have hp0:f.Fields.length≤4294967296:=hp _ m0
 clear hp hb
 rw[Zv164 f]
 exact⟨hp0,Lf_rfl _⟩
def Zh164:HH:=⟨_,Zo164⟩
def Zk74:Con UU where
 α:=(List DTimer)
 md:=[.ro]
 of:=o1 (oL .eTimer)
 ds:=fun x=>[dL .eTimer x]
 pre:=fun l=>[sizeTimerS l≤4294967296]
 res:=fun l=>⟨[.one (.sl .eTimer l)],true,[]⟩
 law:=l1 (lL .eTimer)
def Zi74_3(l:(List DTimer)):List DTimer×Int×Unit→Prop:=fun(out,i,_)=>0≤i∧i≤l.length∧out=l.take i.toNat
def Zm74_3(l:(List DTimer)):List DTimer×Int×Unit→Nat:=fun(out,i,_)=>l.length-i.toNat
def Za74:Zk74.α→Nat→Option (Ann UU):=fun l=>annL [(3,annOf [.slot 3 (3,1024) (.own .eTimer true),.slot 4 (4,1024) (.lit (.int .i64))] (fun _=>Zi74_3 l) (Zm74_3 l))]
def Zu74:=us [Zh145]
theorem Zv74(l:(List DTimer)):goal EE Zu74 Go.Proofs.Tryz.f74 Zk74 Za74 l=(Zi74_3 l ([],(0:Int),())∧
 ∀(y:List DTimer×Int×PUnit),
  let x2:Nat:=Int.toNat y.2.1;
  let x1:DTimer:=List.getD l x2 zTimer;
  let x0:List DTimer:=[x1];
  Zi74_3 l y→bif decide (y.2.1<(↑(List.length l):Int)) then(0:Int)≤y.2.1∧x2<List.length l∧(0:Int)≤y.2.1∧x2<List.length l∧List.length x1.F.Fields≤(4294967296:Nat)∧List.length y.1+List.length x0≤(4294967296:Nat)∧Zi74_3 l (y.1++x0,IntKind.wrap IntKind.i64 (y.2.1+(1:Int)),PUnit.unit)∧Zm74_3 l (y.1++x0,IntKind.wrap IntKind.i64 (y.2.1+(1:Int)),PUnit.unit)<Zm74_3 l y else Lf [DV.one (Cell.sl Cd.eTimer y.1)] [DV.one (Cell.sl Cd.eTimer l)]):=by kernel_rfl
theorem Zo74:Holds EE (74,Zk74):=by
 refine holds_of EE_ok Go.Proofs.Tryz.func74 Zk74 (by kernel_rfl) Zu74 (us_ok _) Za74 (fun(l:(List DTimer)) hp hb=> ?_)
 have hl_l:l.length≤9223372036854775807:=bdL (hb _ m0)
 have hp0:sizeTimerS l≤4294967296:=hp _ m0
 clear hp hb
 rw[Zv74 l]
 dsimp only
 refine⟨⟨by omega,by omega,by simp⟩,?_⟩
 rintro⟨out,i,⟨⟩⟩ ⟨h1,h2,rfl⟩
 simp only
 refine if_cond (fun hc=> ?_) (fun hc=> ?_)
 ·have hc:=of_decide_eq_true hc
  have hs:=sum_getD_le sizeTimer l zTimer h1 hc
  simp only[sizeTimerS] at hp0
  have hx:=hs
  simp only[sizeTimer,sizeFact,sizeValS] at hx
  rw[take_step l zTimer h1 hc,wrap_i64 (by omega) (by omega)]
  repeat' (first|refine And.intro (by omega) ?_|fail)
  refine⟨by simp;omega,⟨by omega,by omega,rfl⟩,by simp only[Zm74_3];omega⟩
 ·have hc:=of_decide_eq_false hc
  rw[take_all l (by omega)]
  exact Lf_rfl _
def Zh74:HH:=⟨_,Zo74⟩
def Zk97:Con UU where
 α:=(List DTimer)
 md:=[.ro]
 of:=o1 (oL .eTimer)
 ds:=fun x=>[dL .eTimer x]
 pre:=fun l=>[sizeTimerS l≤4294967296]
 res:=fun l=>⟨[.one (.sl .eTimer l)],true,[]⟩
 law:=l1 (lL .eTimer)
def Zi97_3(l:(List DTimer)):List DTimer×Int×Unit→Prop:=fun(out,i,_)=>0≤i∧i≤l.length∧out=l.take i.toNat
def Zm97_3(l:(List DTimer)):List DTimer×Int×Unit→Nat:=fun(out,i,_)=>l.length-i.toNat
def Za97:Zk97.α→Nat→Option (Ann UU):=fun l=>annL [(3,annOf [.slot 3 (3,1024) (.own .eTimer true),.slot 8 (8,1024) (.lit (.int .i64))] (fun _=>Zi97_3 l) (Zm97_3 l))]
def Zu97:=us [Zh164]
theorem Zv97(l:(List DTimer)):goal EE Zu97 Go.Proofs.Tryz.f97 Zk97 Za97 l=(Zi97_3 l ([],(0:Int),())∧
 ∀(y:List DTimer×Int×PUnit),
  let x2:Nat:=Int.toNat y.2.1;
  let x1:DTimer:=List.getD l x2 zTimer;
  let x0:List DTimer:=[x1];
  Zi97_3 l y→bif decide (y.2.1<(↑(List.length l):Int)) then(0:Int)≤y.2.1∧x2<List.length l∧List.length x1.F.Fields≤(4294967296:Nat)∧List.length y.1+List.length x0≤(4294967296:Nat)∧Zi97_3 l (y.1++x0,IntKind.wrap IntKind.i64 (y.2.1+(1:Int)),PUnit.unit)∧Zm97_3 l (y.1++x0,IntKind.wrap IntKind.i64 (y.2.1+(1:Int)),PUnit.unit)<Zm97_3 l y else Lf [DV.one (Cell.sl Cd.eTimer y.1)] [DV.one (Cell.sl Cd.eTimer l)]):=by kernel_rfl
theorem Zo97:Holds EE (97,Zk97):=by
 refine holds_of EE_ok Go.Proofs.Tryz.func97 Zk97 (by kernel_rfl) Zu97 (us_ok _) Za97 (fun(l:(List DTimer)) hp hb=> ?_)
 have hl_l:l.length≤9223372036854775807:=bdL (hb _ m0)
 have hp0:sizeTimerS l≤4294967296:=hp _ m0
 clear hp hb
 rw[Zv97 l]
 dsimp only
 refine⟨⟨by omega,by omega,by simp⟩,?_⟩
 rintro⟨out,i,⟨⟩⟩ ⟨h1,h2,rfl⟩
 simp only
 refine if_cond (fun hc=> ?_) (fun hc=> ?_)
 ·have hc:=of_decide_eq_true hc
  have hs:=sum_getD_le sizeTimer l zTimer h1 hc
  simp only[sizeTimerS] at hp0
  have hx:=hs
  simp only[sizeTimer,sizeFact,sizeValS] at hx
  rw[take_step l zTimer h1 hc,wrap_i64 (by omega) (by omega)]
  repeat' (first|refine And.intro (by omega) ?_|fail)
  refine⟨by simp;omega,⟨by omega,by omega,rfl⟩,by simp only[Zm97_3];omega⟩
 ·have hc:=of_decide_eq_false hc
  rw[take_all l (by omega)]
  exact Lf_rfl _
def Zh97:HH:=⟨_,Zo97⟩
def Zk75:Con UU where
 α:=(List DUndo)
 md:=[.ro]
 of:=o1 (oL .eUndo)
 ds:=fun x=>[dL .eUndo x]
 pre:=fun l=>[sizeUndoS l≤4294967296]
 res:=fun l=>⟨[.one (.sl .eUndo l)],true,[]⟩
 law:=l1 (lL .eUndo)
def Zi75_3(l:(List DUndo)):List DUndo×Int×Unit→Prop:=fun(out,i,_)=>0≤i∧i≤l.length∧out=l.take i.toNat
def Zm75_3(l:(List DUndo)):List DUndo×Int×Unit→Nat:=fun(out,i,_)=>l.length-i.toNat
def Za75:Zk75.α→Nat→Option (Ann UU):=fun l=>annL [(3,annOf [.slot 3 (3,1024) (.own .eUndo true),.slot 4 (4,1024) (.lit (.int .i64))] (fun _=>Zi75_3 l) (Zm75_3 l))]
def Zu75:=us [Zh145]
theorem Zv75(l:(List DUndo)):goal EE Zu75 Go.Proofs.Tryz.f75 Zk75 Za75 l=(Zi75_3 l ([],(0:Int),())∧
 ∀(y:List DUndo×Int×PUnit),
  let x2:Nat:=Int.toNat y.2.1;
  let x1:DUndo:=List.getD l x2 zUndo;
  let x0:List DUndo:=[x1];
  Zi75_3 l y→bif decide (y.2.1<(↑(List.length l):Int)) then(0:Int)≤y.2.1∧x2<List.length l∧(0:Int)≤y.2.1∧x2<List.length l∧List.length x1.F.Fields≤(4294967296:Nat)∧List.length y.1+List.length x0≤(4294967296:Nat)∧Zi75_3 l (y.1++x0,IntKind.wrap IntKind.i64 (y.2.1+(1:Int)),PUnit.unit)∧Zm75_3 l (y.1++x0,IntKind.wrap IntKind.i64 (y.2.1+(1:Int)),PUnit.unit)<Zm75_3 l y else Lf [DV.one (Cell.sl Cd.eUndo y.1)] [DV.one (Cell.sl Cd.eUndo l)]):=by kernel_rfl
theorem Zo75:Holds EE (75,Zk75):=by
 refine holds_of EE_ok Go.Proofs.Tryz.func75 Zk75 (by kernel_rfl) Zu75 (us_ok _) Za75 (fun(l:(List DUndo)) hp hb=> ?_)
 have hl_l:l.length≤9223372036854775807:=bdL (hb _ m0)
 have hp0:sizeUndoS l≤4294967296:=hp _ m0
 clear hp hb
 rw[Zv75 l]
 dsimp only
 refine⟨⟨by omega,by omega,by simp⟩,?_⟩
 rintro⟨out,i,⟨⟩⟩ ⟨h1,h2,rfl⟩
 simp only
 refine if_cond (fun hc=> ?_) (fun hc=> ?_)
 ·have hc:=of_decide_eq_true hc
  have hs:=sum_getD_le sizeUndo l zUndo h1 hc
  simp only[sizeUndoS] at hp0
  have hx:=hs
  simp only[sizeUndo,sizeFact,sizeValS] at hx
  rw[take_step l zUndo h1 hc,wrap_i64 (by omega) (by omega)]
  repeat' (first|refine And.intro (by omega) ?_|fail)
  refine⟨by simp;omega,⟨by omega,by omega,rfl⟩,by simp only[Zm75_3];omega⟩
 ·have hc:=of_decide_eq_false hc
  rw[take_all l (by omega)]
  exact Lf_rfl _
def Zh75:HH:=⟨_,Zo75⟩
def Zk98:Con UU where
 α:=(List DUndo)
 md:=[.ro]
 of:=o1 (oL .eUndo)
 ds:=fun x=>[dL .eUndo x]
 pre:=fun l=>[sizeUndoS l≤4294967296]
 res:=fun l=>⟨[.one (.sl .eUndo l)],true,[]⟩
 law:=l1 (lL .eUndo)
def Zi98_3(l:(List DUndo)):List DUndo×Int×Unit→Prop:=fun(out,i,_)=>0≤i∧i≤l.length∧out=l.take i.toNat
def Zm98_3(l:(List DUndo)):List DUndo×Int×Unit→Nat:=fun(out,i,_)=>l.length-i.toNat
def Za98:Zk98.α→Nat→Option (Ann UU):=fun l=>annL [(3,annOf [.slot 3 (3,1024) (.own .eUndo true),.slot 8 (8,1024) (.lit (.int .i64))] (fun _=>Zi98_3 l) (Zm98_3 l))]
def Zu98:=us [Zh164]
theorem Zv98(l:(List DUndo)):goal EE Zu98 Go.Proofs.Tryz.f98 Zk98 Za98 l=(Zi98_3 l ([],(0:Int),())∧
 ∀(y:List DUndo×Int×PUnit),
  let x2:Nat:=Int.toNat y.2.1;
  let x1:DUndo:=List.getD l x2 zUndo;
  let x0:List DUndo:=[x1];
  Zi98_3 l y→bif decide (y.2.1<(↑(List.length l):Int)) then(0:Int)≤y.2.1∧x2<List.length l∧List.length x1.F.Fields≤(4294967296:Nat)∧List.length y.1+List.length x0≤(4294967296:Nat)∧Zi98_3 l (y.1++x0,IntKind.wrap IntKind.i64 (y.2.1+(1:Int)),PUnit.unit)∧Zm98_3 l (y.1++x0,IntKind.wrap IntKind.i64 (y.2.1+(1:Int)),PUnit.unit)<Zm98_3 l y else Lf [DV.one (Cell.sl Cd.eUndo y.1)] [DV.one (Cell.sl Cd.eUndo l)]):=by kernel_rfl
theorem Zo98:Holds EE (98,Zk98):=by
 refine holds_of EE_ok Go.Proofs.Tryz.func98 Zk98 (by kernel_rfl) Zu98 (us_ok _) Za98 (fun(l:(List DUndo)) hp hb=> ?_)
 have hl_l:l.length≤9223372036854775807:=bdL (hb _ m0)
 have hp0:sizeUndoS l≤4294967296:=hp _ m0
 clear hp hb
 rw[Zv98 l]
 dsimp only
 refine⟨⟨by omega,by omega,by simp⟩,?_⟩
 rintro⟨out,i,⟨⟩⟩ ⟨h1,h2,rfl⟩
 simp only
 refine if_cond (fun hc=> ?_) (fun hc=> ?_)
 ·have hc:=of_decide_eq_true hc
  have hs:=sum_getD_le sizeUndo l zUndo h1 hc
  simp only[sizeUndoS] at hp0
  have hx:=hs
  simp only[sizeUndo,sizeFact,sizeValS] at hx
  rw[take_step l zUndo h1 hc,wrap_i64 (by omega) (by omega)]
  repeat' (first|refine And.intro (by omega) ?_|fail)
  refine⟨by simp;omega,⟨by omega,by omega,rfl⟩,by simp only[Zm98_3];omega⟩
 ·have hc:=of_decide_eq_false hc
  rw[take_all l (by omega)]
  exact Lf_rfl _
def Zh98:HH:=⟨_,Zo98⟩
def Zk155:Con UU where
 α:=(List DUndo)
 md:=[.ro]
 of:=o1 (oL .eUndo)
 ds:=fun x=>[dL .eUndo x]
 pre:=fun l=>[sizeUndoS l≤4294967296]
 res:=fun l=>⟨[.agg [.lit (.string ((undoLast l)).Kind),.sl .eVal ((undoLast l)).Fields],.one (.lit (.bool (decide (¬l=[]))))],true,[]⟩
 law:=l1 (lL .eUndo)
def Za155:Zk155.α→Nat→Option (Ann UU):=fun l=>annL []
def Zu155:=us [Zh145]
theorem Zv155(l:(List DUndo)):goal EE Zu155 Go.Proofs.Tryz.f155 Zk155 Za155 l=(let x3:Int:=IntKind.wrap IntKind.i64 ((l.length:Int)-(1:Int));
let x2:Nat:=Int.toNat x3;
let x1:DFact:=(List.getD l x2 zUndo).F;
let x0:List DVal:=x1.Fields;
bif (↑(List.length l):Int)==(0:Int) then Lf [DV.agg [Cell.lit (Value.string {data:= #[]:ByteArray}),Cell.sl Cd.eVal []],DV.one (Cell.lit (Value.bool false))] [DV.agg [Cell.lit (Value.string (undoLast l).Kind),Cell.sl Cd.eVal (undoLast l).Fields],DV.one (Cell.lit (Value.bool (decide ¬l=[])))] else(0:Int)≤x3∧x2<List.length l∧List.length x0≤(4294967296:Nat)∧Lf [DV.agg [Cell.lit (Value.string x1.Kind),Cell.sl Cd.eVal x0],DV.one (Cell.lit (Value.bool true))] [DV.agg [Cell.lit (Value.string (undoLast l).Kind),Cell.sl Cd.eVal (undoLast l).Fields],DV.one (Cell.lit (Value.bool (decide ¬l=[])))]):=by kernel_rfl
theorem Zo155:Holds EE (155,Zk155):=by
 refine holds_of EE_ok Go.Proofs.Tryz.func155 Zk155 (by kernel_rfl) Zu155 (us_ok _) Za155 (fun(l:(List DUndo)) hp hb=> ?_)
 have hl_l:l.length≤9223372036854775807:=bdL (hb _ m0)
 have hp0:sizeUndoS l≤4294967296:=hp _ m0
 clear hp hb
 rw[Zv155 l]
 dsimp only
 by_cases hl:l=[]
 ·subst hl;exact Lf_rfl _
 ·have h0:0<l.length:=List.length_pos_iff.2 hl
  have h1:(l.length-1:Int).toNat=l.length-1:=by omega
  have hs:=sum_getD_le sizeUndo l zUndo (i:=l.length-1) (by omega) (by omega)
  simp only[sizeUndoS] at hp0
  rw[h1] at hs
  have hx:=hs
  simp only[sizeUndo,sizeFact,sizeValS] at hx
  rw[wrap_i64 (by omega) (by omega),h1]
  refine if_cond (fun h=>absurd h (by simp;omega)) (fun h=> ?_)
  repeat' (first|refine And.intro (by omega) ?_|fail)
  simp only[undoLast,if_neg hl,decide_not,hl]
  exact Lf_rfl _
def Zh155:HH:=⟨_,Zo155⟩
def Zk179:Con UU where
 α:=(List DUndo)
 md:=[.ro]
 of:=o1 (oL .eUndo)
 ds:=fun x=>[dL .eUndo x]
 pre:=fun l=>[sizeUndoS l≤4294967296]
 res:=fun l=>⟨[.agg [.lit (.string ((undoLast l)).Kind),.sl .eVal ((undoLast l)).Fields],.one (.lit (.bool (decide (¬l=[]))))],true,[]⟩
 law:=l1 (lL .eUndo)
def Za179:Zk179.α→Nat→Option (Ann UU):=fun l=>annL []
def Zu179:=us [Zh164]
theorem Zv179(l:(List DUndo)):goal EE Zu179 Go.Proofs.Tryz.f179 Zk179 Za179 l=(let x3:Int:=IntKind.wrap IntKind.i64 ((l.length:Int)-(1:Int));
let x2:Nat:=Int.toNat x3;
let x1:DFact:=(List.getD l x2 zUndo).F;
let x0:List DVal:=x1.Fields;
bif (↑(List.length l):Int)==(0:Int) then Lf [DV.agg [Cell.lit (Value.string {data:= #[]:ByteArray}),Cell.sl Cd.eVal []],DV.one (Cell.lit (Value.bool false))] [DV.agg [Cell.lit (Value.string (undoLast l).Kind),Cell.sl Cd.eVal (undoLast l).Fields],DV.one (Cell.lit (Value.bool (decide ¬l=[])))] else(0:Int)≤x3∧x2<List.length l∧List.length x0≤(4294967296:Nat)∧Lf [DV.agg [Cell.lit (Value.string x1.Kind),Cell.sl Cd.eVal x0],DV.one (Cell.lit (Value.bool true))] [DV.agg [Cell.lit (Value.string (undoLast l).Kind),Cell.sl Cd.eVal (undoLast l).Fields],DV.one (Cell.lit (Value.bool (decide ¬l=[])))]):=by kernel_rfl
theorem Zo179:Holds EE (179,Zk179):=by
 refine holds_of EE_ok Go.Proofs.Tryz.func179 Zk179 (by kernel_rfl) Zu179 (us_ok _) Za179 (fun(l:(List DUndo)) hp hb=> ?_)
 have hl_l:l.length≤9223372036854775807:=bdL (hb _ m0)
 have hp0:sizeUndoS l≤4294967296:=hp _ m0
 clear hp hb
 rw[Zv179 l]
 dsimp only
 by_cases hl:l=[]
 ·subst hl;exact Lf_rfl _
 ·have h0:0<l.length:=List.length_pos_iff.2 hl
  have h1:(l.length-1:Int).toNat=l.length-1:=by omega
  have hs:=sum_getD_le sizeUndo l zUndo (i:=l.length-1) (by omega) (by omega)
  simp only[sizeUndoS] at hp0
  rw[h1] at hs
  have hx:=hs
  simp only[sizeUndo,sizeFact,sizeValS] at hx
  rw[wrap_i64 (by omega) (by omega),h1]
  refine if_cond (fun h=>absurd h (by simp;omega)) (fun h=> ?_)
  repeat' (first|refine And.intro (by omega) ?_|fail)
  simp only[undoLast,if_neg hl,decide_not,hl]
  exact Lf_rfl _
def Zh179:HH:=⟨_,Zo179⟩
def undoOk(s:ByteArray):Bool:=decide (s=noBytes)||nameOk s
def taskOk(t:DTask):Bool:=factOk t.F&&undoOk t.Undo&&decide (1≤t.State∧t.State≤4)&&decide (0≤t.Tries∧t.Tries≤4)&&decide (0≤t.Due∧t.Due≤1000001000)&&(decide (t.V=zVal)||valOk t.V)&&decide ((t.State=1→t.Tries=0)∧(t.State=2→t.Tries≠0))
def taskAt(l:List DTask)(i:Nat):Bool:=taskOk (List.getD l i zTask)&& !(anyI i fun k=>decide ((List.getD l k zTask).F=(List.getD l i zTask).F))
def tasksOk(l:List DTask):Bool:=decide (l.length≤30)&&allI l.length (taskAt l)
def placeOf(l:List DTask)(f:DFact):Int:=idxI l.length fun k=>decide ((List.getD l k zTask).F=f)
def isOpen(t:DTask):Bool:=decide (t.State=1∨t.State=2)
def giveUp1(t:DTask):DTask:=if t.State=1∨t.State=2 then⟨t.F,t.Undo,4,t.Tries,t.Due,t.V⟩ else t
def giveUp(l:List DTask):List DTask:=l.map giveUp1
def daTask(x:DTask):DA UU:=⟨true,[.lit (.string x.F.Kind),.sl .eVal x.F.Fields,.lit (.string x.Undo),.lit (.int .i64 x.State),.lit (.int .i64 x.Tries),.lit (.int .i64 x.Due),.lit (.int .i64 x.V.K),.lit (.int .i64 x.V.N),.lit (.string x.V.S)]⟩
theorem fact_ext{a b:DFact}:a=b↔a.Kind=b.Kind∧a.Fields=b.Fields:=by
 obtain⟨k,f⟩:=a;obtain⟨k',f'⟩:=b;simp
theorem map_mod{α:Type}(f:α→α)(l:List α)(z:α){i:Int}(F:α→α)(h0:0≤i)(h:i<l.length)(hF:F (List.getD l i.toNat z)=f (List.getD l i.toNat z)):
  ((l.map f).take i.toNat++l.drop i.toNat).modify i.toNat F=(l.map f).take (i+1).toNat++l.drop (i+1).toNat:=by
 have hn:i.toNat<l.length:=by omega
 have e:(i+1).toNat=i.toNat+1:=by omega
 have ht:((l.map f).take i.toNat).length=i.toNat:=by rw[zaw,zco];omega
 rw[modify_set _ z,mk_getD _ l z ht h0 h,hF,drop_step l z h0 h,List.set_append_right _ _ (by rw[ht];exact zca _),ht,zev,List.set_cons_zero,e,zcz (by simpa using hn),zbr,List.getElem_map]
 rw[zac,zad hn]
 rfl
theorem map_skip{α:Type}(f:α→α)(l:List α)(z:α){i:Int}(h0:0≤i)(h:i<l.length)(hF:List.getD l i.toNat z=f (List.getD l i.toNat z)):
  (l.map f).take i.toNat++l.drop i.toNat=(l.map f).take (i+1).toNat++l.drop (i+1).toNat:=by
 rw[←map_mod f l z (fun x=>x) h0 h hF]
 have:∀(m:List α)(n:Nat),m.modify n (fun x=>x)=m:=by
  intro m n
  refine zcx fun j=> ?_
  rw[zei]
  cases m[j]? <;>simp
 rw[this]
theorem map_row{α:Type}(f:α→α)(l:List α){i:Int}(h0:0≤i)(h:i≤l.length):((l.map f).take i.toNat++l.drop i.toNat).length=l.length:=by
 rw[zce,zaw,zco,zcs];omega
theorem map_tl{α:Type}(f:α→α)(l:List α){i:Int}(h0:0≤i)(h:i≤l.length):((l.map f).take i.toNat).length=i.toNat:=by
 rw[zaw,zco];omega
theorem map_done{α:Type}(f:α→α)(l:List α){i:Int}(h:l.length≤i):(l.map f).take i.toNat++l.drop i.toNat=l.map f:=by
 rw[List.drop_eq_nil_of_le (by omega),zch,zcy (by rw[zco];omega)]
def Zk205:Con UU where
 α:=(List DVal)×(List DVal)
 md:=[.ro,.ro]
 of:=oC (oL .eVal) (o1 (oL .eVal))
 ds:=fun x=>[dL .eVal x.1,dL .eVal x.2]
 pre:=fun _=>[]
 res:=fun(a,b)=>⟨[.one (.lit (.bool (decide (a=b))))],true,[]⟩
 law:=lC (lL .eVal) (l1 (lL .eVal))
def Zi205_4(a:(List DVal))(b:(List DVal)):Int×Unit→Prop:=fun(i,_)=>0≤i∧i≤a.length∧a.length=b.length∧(a.drop i.toNat=b.drop i.toNat↔a=b)
def Zm205_4(a:(List DVal))(b:(List DVal)):Int×Unit→Nat:=fun(i,_)=>a.length-i.toNat
def Za205:Zk205.α→Nat→Option (Ann UU):=fun(a,b)=>annL [(4,annOf [.slot 5 (5,1024) (.lit (.int .i64))] (fun _=>Zi205_4 a b) (Zm205_4 a b))]
def Zu205:List (FuncId×Con UU):=[]
theorem Zv205(a:(List DVal))(b:(List DVal)):goal EE Zu205 Go.Proofs.Tryz.f205 Zk205 Za205 (a,b)=(bif (a.length:Int) !=(b.length:Int) then Lb false (decide (a=b))
else
 Zi205_4 a b ((0:Int),PUnit.unit)∧
  ∀(y:Int×PUnit),
   let x0:DVal:=List.getD a (Int.toNat y.1) zVal;
   let x1:DVal:=List.getD b (Int.toNat y.1) zVal;
   Zi205_4 a b y→bif decide (y.1<(↑(List.length a):Int)) then(0:Int)≤y.1∧Int.toNat y.1<List.length a∧(0:Int)≤y.1∧Int.toNat y.1<List.length b∧bif !(x0.K==x1.K&&(x0.N==x1.N&&(ByteArray.toList x0.S==ByteArray.toList x1.S&&true))) then Lf [DV.one (Cell.lit (Value.bool false))] [DV.one (Cell.lit (Value.bool (decide (a=b))))] else Zi205_4 a b (IntKind.wrap IntKind.i64 (y.1+(1:Int)),PUnit.unit)∧Zm205_4 a b (IntKind.wrap IntKind.i64 (y.1+(1:Int)),PUnit.unit)<Zm205_4 a b y else Lf [DV.one (Cell.lit (Value.bool true))] [DV.one (Cell.lit (Value.bool (decide (a=b))))]):=by kernel_rfl
theorem Zo205:Holds EE (205,Zk205):=by
 refine holds_of EE_ok Go.Proofs.Tryz.func205 Zk205 (by kernel_rfl) Zu205 all_nil Za205 (fun x hp hb=> ?_)
 obtain⟨a,b⟩:=x
 have hl_a:a.length≤9223372036854775807:=bdL (hb _ m0)
 have hl_b:b.length≤9223372036854775807:=bdL (hb _ m1)
 clear hp hb
 rw[Zv205 a b]
 dsimp only
 refine if_cond (fun h=>Lf_f ?_) (fun h=>⟨?_,?_⟩)
 ·rintro rfl;simp at h
 ·simp[Zi205_4] at*;omega
 rintro⟨i,⟨⟩⟩ ⟨h1,h2,h3,hR⟩
 simp only at*
 refine if_cond (fun hc=> ?_) (fun hc=> ?_)
 ·have hc:i<a.length:=by simpa using hc
  rw[drop_step a zVal h1 hc,drop_step b zVal h1 (by omega)] at hR
  rw[wrap_i64 (by omega) (by omega)]
  simp only[val_beq]
  refine⟨by omega,by omega,by omega,by omega,if_cond (fun h=>Lf_f ?_) (fun h=>⟨⟨by omega,by omega,h3,?_⟩,?_⟩)⟩
  ·rw[←hR];simp at h;simp[h]
  ·rw[←hR];simp at h;simp[h]
  ·simp only[Zm205_4];omega
 ·have hc:a.length≤i:=by simpa using hc
  rw[drop_end a hc,drop_end b (by omega)] at hR
  exact Lf_t (hR.1 rfl)
def Zh205:HH:=⟨_,Zo205⟩
def Zk221:Con UU where
 α:=(List DVal)×(List DVal)
 md:=[.ro,.ro]
 of:=oC (oL .eVal) (o1 (oL .eVal))
 ds:=fun x=>[dL .eVal x.1,dL .eVal x.2]
 pre:=fun _=>[]
 res:=fun(a,b)=>⟨[.one (.lit (.bool (decide (a=b))))],true,[]⟩
 law:=lC (lL .eVal) (l1 (lL .eVal))
def Zi221_4(a:(List DVal))(b:(List DVal)):Int×Unit→Prop:=fun(i,_)=>0≤i∧i≤a.length∧a.length=b.length∧(a.drop i.toNat=b.drop i.toNat↔a=b)
def Zm221_4(a:(List DVal))(b:(List DVal)):Int×Unit→Nat:=fun(i,_)=>a.length-i.toNat
def Za221:Zk221.α→Nat→Option (Ann UU):=fun(a,b)=>annL [(4,annOf [.slot 13 (13,1024) (.lit (.int .i64))] (fun _=>Zi221_4 a b) (Zm221_4 a b))]
def Zu221:List (FuncId×Con UU):=[]
theorem Zv221(a:(List DVal))(b:(List DVal)):goal EE Zu221 Go.Proofs.Tryz.f221 Zk221 Za221 (a,b)=(bif (a.length:Int) !=(b.length:Int) then Lb false (decide (a=b))
else
 Zi221_4 a b ((0:Int),PUnit.unit)∧
  ∀(y:Int×PUnit),
   let x0:DVal:=List.getD b (Int.toNat y.1) zVal;
   let x1:DVal:=List.getD a (Int.toNat y.1) zVal;
   Zi221_4 a b y→bif decide (y.1<(↑(List.length a):Int)) then(0:Int)≤y.1∧Int.toNat y.1<List.length a∧(0:Int)≤y.1∧Int.toNat y.1<List.length b∧bif !(x1.K==x0.K&&(x1.N==x0.N&&(ByteArray.toList x1.S==ByteArray.toList x0.S&&true))) then Lf [DV.one (Cell.lit (Value.bool false))] [DV.one (Cell.lit (Value.bool (decide (a=b))))] else Zi221_4 a b (IntKind.wrap IntKind.i64 (y.1+(1:Int)),PUnit.unit)∧Zm221_4 a b (IntKind.wrap IntKind.i64 (y.1+(1:Int)),PUnit.unit)<Zm221_4 a b y else Lf [DV.one (Cell.lit (Value.bool true))] [DV.one (Cell.lit (Value.bool (decide (a=b))))]):=by kernel_rfl
theorem Zo221:Holds EE (221,Zk221):=by
 refine holds_of EE_ok Go.Proofs.Tryz.func221 Zk221 (by kernel_rfl) Zu221 all_nil Za221 (fun x hp hb=> ?_)
 obtain⟨a,b⟩:=x
 have hl_a:a.length≤9223372036854775807:=bdL (hb _ m0)
 have hl_b:b.length≤9223372036854775807:=bdL (hb _ m1)
 clear hp hb
 rw[Zv221 a b]
 dsimp only
 refine if_cond (fun h=>Lf_f ?_) (fun h=>⟨?_,?_⟩)
 ·rintro rfl;simp at h
 ·simp[Zi221_4] at*;omega
 rintro⟨i,⟨⟩⟩ ⟨h1,h2,h3,hR⟩
 simp only at*
 refine if_cond (fun hc=> ?_) (fun hc=> ?_)
 ·have hc:i<a.length:=by simpa using hc
  rw[drop_step a zVal h1 hc,drop_step b zVal h1 (by omega)] at hR
  rw[wrap_i64 (by omega) (by omega)]
  simp only[val_beq]
  refine⟨by omega,by omega,by omega,by omega,if_cond (fun h=>Lf_f ?_) (fun h=>⟨⟨by omega,by omega,h3,?_⟩,?_⟩)⟩
  ·rw[←hR];simp at h;simp[h]
  ·rw[←hR];simp at h;simp[h]
  ·simp only[Zm221_4];omega
 ·have hc:a.length≤i:=by simpa using hc
  rw[drop_end a hc,drop_end b (by omega)] at hR
  exact Lf_t (hR.1 rfl)
def Zh221:HH:=⟨_,Zo221⟩
def Zk150:Con UU where
 α:=DFact×DFact
 md:=[.ro,.ro]
 of:=oC (oA .eFact) (o1 (oA .eFact))
 ds:=fun x=>[dA .eFact x.1,dA .eFact x.2]
 pre:=fun _=>[]
 res:=fun(a,b)=>⟨[.one (.lit (.bool (decide (a=b))))],true,[]⟩
 law:=lC (lA .eFact) (l1 (lA .eFact))
def Za150:Zk150.α→Nat→Option (Ann UU):=fun(a,b)=>annL []
def Zu150:=us [Zh205]
theorem Zv150(a:DFact)(b:DFact):goal EE Zu150 Go.Proofs.Tryz.f150 Zk150 Za150 (a,b)=(bif ByteArray.toList a.Kind==ByteArray.toList b.Kind then Lb (decide (a.Fields=b.Fields)) (decide (a=b)) else Lb false (decide (a=b))):=by kernel_rfl
theorem Zo150:Holds EE (150,Zk150):=by
 refine holds_of EE_ok Go.Proofs.Tryz.func150 Zk150 (by kernel_rfl) Zu150 (us_ok _) Za150 (fun x hp hb=> ?_)
 obtain⟨a,b⟩:=x
 have hz0:=bd_eFact (x:=a) (hb _ m0)
 have hl_a_Kind:=hz0.1
 have hl_a_Fields:=hz0.2
 have hz1:=bd_eFact (x:=b) (hb _ m1)
 have hl_b_Kind:=hz1.1
 have hl_b_Fields:=hz1.2
 clear hp hb
 rw[Zv150 a b]
 simp only[toList_beq]
 refine if_cond (fun h=>Lf_b ?_) (fun h=>Lf_b ?_)<;>(simp only[fact_ext];grind)
def Zh150:HH:=⟨_,Zo150⟩
def Zk168:Con UU where
 α:=DFact×DFact
 md:=[.ro,.ro]
 of:=oC (oA .eFact) (o1 (oA .eFact))
 ds:=fun x=>[dA .eFact x.1,dA .eFact x.2]
 pre:=fun _=>[]
 res:=fun(a,b)=>⟨[.one (.lit (.bool (decide (a=b))))],true,[]⟩
 law:=lC (lA .eFact) (l1 (lA .eFact))
def Za168:Zk168.α→Nat→Option (Ann UU):=fun(a,b)=>annL []
def Zu168:=us [Zh221]
theorem Zv168(a:DFact)(b:DFact):goal EE Zu168 Go.Proofs.Tryz.f168 Zk168 Za168 (a,b)=(bif ByteArray.toList a.Kind==ByteArray.toList b.Kind then Lb (decide (a.Fields=b.Fields)) (decide (a=b)) else Lb false (decide (a=b))):=by kernel_rfl
theorem Zo168:Holds EE (168,Zk168):=by
 refine holds_of EE_ok Go.Proofs.Tryz.func168 Zk168 (by kernel_rfl) Zu168 (us_ok _) Za168 (fun x hp hb=> ?_)
 obtain⟨a,b⟩:=x
 have hz0:=bd_eFact (x:=a) (hb _ m0)
 have hl_a_Kind:=hz0.1
 have hl_a_Fields:=hz0.2
 have hz1:=bd_eFact (x:=b) (hb _ m1)
 have hl_b_Kind:=hz1.1
 have hl_b_Fields:=hz1.2
 clear hp hb
 rw[Zv168 a b]
 simp only[toList_beq]
 refine if_cond (fun h=>Lf_b ?_) (fun h=>Lf_b ?_)<;>(simp only[fact_ext];grind)
def Zh168:HH:=⟨_,Zo168⟩
def Zk204:Con UU where
 α:=ByteArray
 md:=[.ro]
 of:=o1 oS
 ds:=fun x=>[dS x]
 pre:=fun _=>[]
 res:=fun s=>⟨[.one (.lit (.bool (undoOk s)))],true,[]⟩
 law:=l1 lS
def Za204:Zk204.α→Nat→Option (Ann UU):=fun s=>annL []
def Zu204:=us [Zh130]
theorem Zv204(s:ByteArray):goal EE Zu204 Go.Proofs.Tryz.f204 Zk204 Za204 s=(bif ByteArray.toList s==ByteArray.toList {data:= #[]:ByteArray} then Lb true (undoOk s) else Lb (nameOk s) (undoOk s)):=by kernel_rfl
theorem Zo204:Holds EE (204,Zk204):=by
 refine holds_of EE_ok Go.Proofs.Tryz.func204 Zk204 (by kernel_rfl) Zu204 (us_ok _) Za204 (fun(s:ByteArray) hp hb=> ?_)
 have hl_s:=bdS (s:=s) (hb _ m0)
 clear hp hb
 rw[Zv204 s]
 have e:(ByteArray.toList s==ByteArray.toList {data:= #[]})=decide (s=noBytes):=toList_beq _ _
 simp only[e,undoOk]
 refine if_cond (fun h=>Lf_b ?_) (fun h=>Lf_b ?_)<;>grind
def Zh204:HH:=⟨_,Zo204⟩
def Zk222:Con UU where
 α:=ByteArray
 md:=[.ro]
 of:=o1 oS
 ds:=fun x=>[dS x]
 pre:=fun _=>[]
 res:=fun s=>⟨[.one (.lit (.bool (undoOk s)))],true,[]⟩
 law:=l1 lS
def Za222:Zk222.α→Nat→Option (Ann UU):=fun s=>annL []
def Zu222:=us [Zh134]
theorem Zv222(s:ByteArray):goal EE Zu222 Go.Proofs.Tryz.f222 Zk222 Za222 s=(bif ByteArray.toList s==ByteArray.toList {data:= #[]:ByteArray} then Lb true (undoOk s) else Lb (nameOk s) (undoOk s)):=by kernel_rfl
theorem Zo222:Holds EE (222,Zk222):=by
 refine holds_of EE_ok Go.Proofs.Tryz.func222 Zk222 (by kernel_rfl) Zu222 (us_ok _) Za222 (fun(s:ByteArray) hp hb=> ?_)
 have hl_s:=bdS (s:=s) (hb _ m0)
 clear hp hb
 rw[Zv222 s]
 have e:(ByteArray.toList s==ByteArray.toList {data:= #[]})=decide (s=noBytes):=toList_beq _ _
 simp only[e,undoOk]
 refine if_cond (fun h=>Lf_b ?_) (fun h=>Lf_b ?_)<;>grind
def Zh222:HH:=⟨_,Zo222⟩
def Zk149:Con UU where
 α:=DTask
 md:=[.ro]
 of:=o1 (oA .eTask)
 ds:=fun x=>[dA .eTask x]
 pre:=fun _=>[]
 res:=fun t=>⟨[.one (.lit (.bool (taskOk t)))],true,[]⟩
 law:=l1 (lA .eTask)
def Za149:Zk149.α→Nat→Option (Ann UU):=fun t=>annL []
def Zu149:=us [Zh58,Zh204,Zh81,Zh192]
theorem Zv149(t:DTask):goal EE Zu149 Go.Proofs.Tryz.f149 Zk149 Za149 t=(bif !factOk t.F then Lb false (taskOk t) else bif !undoOk t.Undo then Lb false (taskOk t) else bif !decide ((1:Int)≤t.State∧t.State≤(4:Int)) then Lb false (taskOk t) else bif !decide ((0:Int)≤t.Tries∧t.Tries≤(4:Int)) then Lb false (taskOk t) else bif !decide ((0:Int)≤t.Due∧t.Due≤(1000001000:Int)) then Lb false (taskOk t) else bif !(t.V.K==(0:Int)&&(t.V.N==(0:Int)&&(ByteArray.toList t.V.S==ByteArray.toList {data:= #[]:ByteArray}&&true))) then bif !valOk t.V then Lb false (taskOk t) else bif t.State !=(1:Int) then bif t.State !=(2:Int) then Lb true (taskOk t) else Lb ((t.State==(1:Int))==(t.Tries==(0:Int))) (taskOk t) else Lb ((t.State==(1:Int))==(t.Tries==(0:Int))) (taskOk t) else bif t.State !=(1:Int) then bif t.State !=(2:Int) then Lb true (taskOk t) else Lb ((t.State==(1:Int))==(t.Tries==(0:Int))) (taskOk t) else Lb ((t.State==(1:Int))==(t.Tries==(0:Int))) (taskOk t)):=by kernel_rfl
theorem Zo149:Holds EE (149,Zk149):=by
 refine holds_of EE_ok Go.Proofs.Tryz.func149 Zk149 (by kernel_rfl) Zu149 (us_ok _) Za149 (fun(t:DTask) hp hb=> ?_)
 have hz0:=bd_eTask (x:=t) (hb _ m0)
 have hl_t_F_Kind:=hz0.1
 have hl_t_F_Fields:=hz0.2.1
 have hl_t_Undo:=hz0.2.2.1
 have hl_t_V_S:=hz0.2.2.2
 clear hp hb
 rw[Zv149 t]
 have e:∀v:DVal,(v.K==0&&(v.N==0&&(ByteArray.toList v.S==ByteArray.toList {data:= #[]}&&true)))=decide (v=zVal):=fun v=>val_beq v zVal
 simp only[e]
 simp only[taskOk]
 repeat' (refine if_cond (fun h=> ?_) (fun h=> ?_))
 all_goals (refine Lf_b ?_;grind)
def Zh149:HH:=⟨_,Zo149⟩
def Zk169:Con UU where
 α:=DTask
 md:=[.ro]
 of:=o1 (oA .eTask)
 ds:=fun x=>[dA .eTask x]
 pre:=fun _=>[]
 res:=fun t=>⟨[.one (.lit (.bool (taskOk t)))],true,[]⟩
 law:=l1 (lA .eTask)
def Za169:Zk169.α→Nat→Option (Ann UU):=fun t=>annL []
def Zu169:=us [Zh61,Zh222,Zh104,Zh135]
theorem Zv169(t:DTask):goal EE Zu169 Go.Proofs.Tryz.f169 Zk169 Za169 t=(bif !factOk t.F then Lb false (taskOk t) else bif !undoOk t.Undo then Lb false (taskOk t) else bif !decide ((1:Int)≤t.State∧t.State≤(4:Int)) then Lb false (taskOk t) else bif !decide ((0:Int)≤t.Tries∧t.Tries≤(4:Int)) then Lb false (taskOk t) else bif t.State==(1:Int) then bif t.Tries !=(0:Int) then Lb false (taskOk t) else bif t.State==(2:Int) then bif t.Tries==(0:Int) then Lb false (taskOk t) else bif decide ((0:Int)≤t.Due∧t.Due≤(1000001000:Int)) then bif t.V.K==(0:Int)&&(t.V.N==(0:Int)&&(ByteArray.toList t.V.S==ByteArray.toList {data:= #[]:ByteArray}&&true)) then Lb true (taskOk t) else Lb (valOk t.V) (taskOk t) else Lb false (taskOk t) else bif decide ((0:Int)≤t.Due∧t.Due≤(1000001000:Int)) then bif t.V.K==(0:Int)&&(t.V.N==(0:Int)&&(ByteArray.toList t.V.S==ByteArray.toList {data:= #[]:ByteArray}&&true)) then Lb true (taskOk t) else Lb (valOk t.V) (taskOk t) else Lb false (taskOk t) else bif t.State==(2:Int) then bif t.Tries==(0:Int) then Lb false (taskOk t) else bif decide ((0:Int)≤t.Due∧t.Due≤(1000001000:Int)) then bif t.V.K==(0:Int)&&(t.V.N==(0:Int)&&(ByteArray.toList t.V.S==ByteArray.toList {data:= #[]:ByteArray}&&true)) then Lb true (taskOk t) else Lb (valOk t.V) (taskOk t) else Lb false (taskOk t) else bif decide ((0:Int)≤t.Due∧t.Due≤(1000001000:Int)) then bif t.V.K==(0:Int)&&(t.V.N==(0:Int)&&(ByteArray.toList t.V.S==ByteArray.toList {data:= #[]:ByteArray}&&true)) then Lb true (taskOk t) else Lb (valOk t.V) (taskOk t) else Lb false (taskOk t)):=by kernel_rfl
theorem Zo169:Holds EE (169,Zk169):=by
 refine holds_of EE_ok Go.Proofs.Tryz.func169 Zk169 (by kernel_rfl) Zu169 (us_ok _) Za169 (fun(t:DTask) hp hb=> ?_)
 have hz0:=bd_eTask (x:=t) (hb _ m0)
 have hl_t_F_Kind:=hz0.1
 have hl_t_F_Fields:=hz0.2.1
 have hl_t_Undo:=hz0.2.2.1
 have hl_t_V_S:=hz0.2.2.2
 clear hp hb
 rw[Zv169 t]
 have e:∀v:DVal,(v.K==0&&(v.N==0&&(ByteArray.toList v.S==ByteArray.toList {data:= #[]}&&true)))=decide (v=zVal):=fun v=>val_beq v zVal
 simp only[e]
 simp only[taskOk]
 repeat' (refine if_cond (fun h=> ?_) (fun h=> ?_))
 all_goals (refine Lf_b ?_;grind)
def Zh169:HH:=⟨_,Zo169⟩
def Zk177:Con UU where
 α:=(List DTask)×(List (DA UU)→Option Value)
 md:=[.ro,.ro]
 of:=oC (oL .eTask) (o1 oF)
 ds:=fun x=>[dL .eTask x.1,dF x.2]
 pre:=fun(l,p)=>[∀j:Nat,j<l.length→p [daTask (List.getD l j zTask)]=some (.bool (boolOf (p [daTask (List.getD l j zTask)])))]
 res:=fun(l,p)=>⟨[.one (.lit (.int .i64 (idxI l.length (fun j=>boolOf (p [daTask (List.getD l j zTask)])))))],true,[]⟩
 law:=lC (lL .eTask) (l1 lF)
def Zi177_2(l:(List DTask))(p:(List (DA UU)→Option Value)):Int×Unit→Prop:=fun(i,_)=>0≤i∧i≤l.length∧∀j:Nat,(j:Int)<i→boolOf (p [daTask (List.getD l j zTask)])=false
def Zm177_2(l:(List DTask))(p:(List (DA UU)→Option Value)):Int×Unit→Nat:=fun(i,_)=>l.length-i.toNat
def Za177:Zk177.α→Nat→Option (Ann UU):=fun(l,p)=>annL [(2,annOf [.slot 8 (8,1024) (.lit (.int .i64))] (fun _=>Zi177_2 l p) (Zm177_2 l p))]
def Zu177:List (FuncId×Con UU):=[]
theorem Zv177(l:(List DTask))(p:(List (DA UU)→Option Value)):goal EE Zu177 Go.Proofs.Tryz.f177 Zk177 Za177 (l,p)=(Zi177_2 l p ((0:Int),())∧
 ∀(y:Int×PUnit),
  let x1:DTask:=List.getD l (Int.toNat y.1) zTask;
  let x0:Bool:=boolOf (p [{agg:=true,cs:=[Cell.lit (Value.string x1.F.Kind),Cell.sl Cd.eVal x1.F.Fields,Cell.lit (Value.string x1.Undo),Cell.lit (Value.int IntKind.i64 x1.State),Cell.lit (Value.int IntKind.i64 x1.Tries),Cell.lit (Value.int IntKind.i64 x1.Due),Cell.lit (Value.int IntKind.i64 x1.V.K),Cell.lit (Value.int IntKind.i64 x1.V.N),Cell.lit (Value.string x1.V.S)]:DA UU}]);
  Zi177_2 l p y→bif decide (y.1<(↑(List.length l):Int)) then(0:Int)≤y.1∧Int.toNat y.1<List.length l∧p [{agg:=true,cs:=[Cell.lit (Value.string x1.F.Kind),Cell.sl Cd.eVal x1.F.Fields,Cell.lit (Value.string x1.Undo),Cell.lit (Value.int IntKind.i64 x1.State),Cell.lit (Value.int IntKind.i64 x1.Tries),Cell.lit (Value.int IntKind.i64 x1.Due),Cell.lit (Value.int IntKind.i64 x1.V.K),Cell.lit (Value.int IntKind.i64 x1.V.N),Cell.lit (Value.string x1.V.S)]:DA UU}]=some (Value.bool x0)∧bif x0 then Lf [DV.one (Cell.lit (Value.int IntKind.i64 y.1))] [DV.one (Cell.lit (Value.int IntKind.i64 (idxI (List.length l) fun(j:Nat)=>boolOf (p [daTask (List.getD l j zTask)]))))] else Zi177_2 l p (IntKind.wrap IntKind.i64 (y.1+(1:Int)),PUnit.unit)∧Zm177_2 l p (IntKind.wrap IntKind.i64 (y.1+(1:Int)),PUnit.unit)<Zm177_2 l p y else Lf [DV.one (Cell.lit (Value.int IntKind.i64 (-1:Int)))] [DV.one (Cell.lit (Value.int IntKind.i64 (idxI (List.length l) fun(j:Nat)=>boolOf (p [daTask (List.getD l j zTask)]))))]):=by kernel_rfl
theorem Zo177:Holds EE (177,Zk177):=by
 refine holds_of EE_ok Go.Proofs.Tryz.func177 Zk177 (by kernel_rfl) Zu177 all_nil Za177 (fun x hp hb=> ?_)
 obtain⟨l,p⟩:=x
 have hl_l:l.length≤9223372036854775807:=bdL (hb _ m0)
 have hp0:∀j:Nat,j<l.length→p [daTask (List.getD l j zTask)]=some (.bool (boolOf (p [daTask (List.getD l j zTask)]))):=hp _ m0
 clear hp hb
 rw[Zv177 l p]
 dsimp only
 refine⟨⟨by omega,by omega,by intro j hj;omega⟩,?_⟩
 rintro⟨i,⟨⟩⟩ ⟨h1,h2,hR⟩
 simp only[daTask] at*
 refine if_cond (fun hc=> ?_) (fun hc=> ?_)
 ·have hc:=of_decide_eq_true hc
  rw[wrap_i64 (by omega) (by omega)]
  refine⟨by omega,by omega,hp0 i.toNat (by omega),if_cond (fun h=>Lf_i ?_) (fun h=>⟨⟨by omega,by omega,upto_no (p:=fun j=>boolOf (p [daTask (List.getD l j zTask)])) h1 hR h⟩,by simp only[Zm177_2];omega⟩)⟩
  rw[idxI_found (i:=i.toNat) (by omega) h (fun j hj=>hR j (by omega))]
  omega
 ·have hc:=of_decide_eq_false hc
  exact Lf_i (idxI_none (fun j hj=>hR j (by omega))).symm
def Zh177:HH:=⟨_,Zo177⟩
def Zk223:Con UU where
 α:=DTask×DFact
 md:=[.ro,.ro]
 of:=oC (oA .eTask) (o1 (oP .eFact))
 ds:=fun x=>[dA .eTask x.1,dP .eFact x.2]
 pre:=fun _=>[]
 res:=fun(t,f)=>⟨[.one (.lit (.bool (decide (t.F=f))))],true,[]⟩
 law:=lC (lA .eTask) (l1 (lP .eFact))
def Za223:Zk223.α→Nat→Option (Ann UU):=fun(t,f)=>annL []
def Zu223:=us [Zh168]
theorem Zv223(t:DTask)(f:DFact):goal EE Zu223 Go.Proofs.Tryz.f223 Zk223 Za223 (t,f)=(Lb (decide (t.F=f)) (decide (t.F=f))):=by kernel_rfl
theorem Zo223:Holds EE (223,Zk223):=by
 refine holds_of EE_ok Go.Proofs.Tryz.func223 Zk223 (by kernel_rfl) Zu223 (us_ok _) Za223 (fun x hp hb=> ?_)
 obtain⟨t,f⟩:=x
 have hz0:=bd_eTask (x:=t) (hb _ m0)
 have hl_t_F_Kind:=hz0.1
 have hl_t_F_Fields:=hz0.2.1
 have hl_t_Undo:=hz0.2.2.1
 have hl_t_V_S:=hz0.2.2.2
 have hz1:=bdP_eFact (x:=f) (hb _ m1)
 have hl_f_Kind:=hz1.1
 have hl_f_Fields:=hz1.2
 clear hp hb
 rw[Zv223 t f]
 exact Lf_rfl _
def Zh223:HH:=⟨_,Zo223⟩
def Zk170:Con UU where
 α:=(List DTask)×DFact
 md:=[.ro,.ro]
 of:=oC (oL .eTask) (o1 (oA .eFact))
 ds:=fun x=>[dL .eTask x.1,dA .eFact x.2]
 pre:=fun _=>[]
 res:=fun(l,f)=>⟨[.one (.lit (.int .i64 (placeOf l f)))],true,[]⟩
 law:=lC (lL .eTask) (l1 (lA .eFact))
def Za170:Zk170.α→Nat→Option (Ann UU):=fun(l,f)=>annL []
def Zu170:=us [Zh177,Zh223]
theorem Zv170(l:(List DTask))(f:DFact):goal EE Zu170 Go.Proofs.Tryz.f170 Zk170 Za170 (l,f)=((∀(j:Nat),j<l.length→closP Zk223 [DV.ptr [Cell.lit (Value.string f.Kind),Cell.sl Cd.eVal f.Fields]] [daTask (List.getD l j zTask)]=some (Value.bool (boolOf (closP Zk223 [DV.ptr [Cell.lit (Value.string f.Kind),Cell.sl Cd.eVal f.Fields]] [daTask (List.getD l j zTask)]))))∧Li (idxI (l.length) fun(j:Nat)=>boolOf (closP Zk223 [DV.ptr [Cell.lit (Value.string f.Kind),Cell.sl Cd.eVal f.Fields]] [daTask (List.getD l j zTask)])) (placeOf l f)):=by kernel_rfl
theorem Zo170:Holds EE (170,Zk170):=by
 refine holds_of EE_ok Go.Proofs.Tryz.func170 Zk170 (by kernel_rfl) Zu170 (us_ok _) Za170 (fun x hp hb=> ?_)
 obtain⟨l,f⟩:=x
 have hl_l:l.length≤9223372036854775807:=bdL (hb _ m0)
 have hz1:=bd_eFact (x:=f) (hb _ m1)
 have hl_f_Kind:=hz1.1
 have hl_f_Fields:=hz1.2
 clear hp hb
 rw[Zv170 l f]
 have hc:∀x:DTask,closP Zk223 [.ptr [.lit (.string f.Kind),.sl .eVal f.Fields]] [daTask x]=some (.bool (decide (x.F=f))):=fun x=>closP_of (x:=(x,f)) rfl rfl rfl rfl (by simp[Zk223])
 refine⟨fun j hj=> ?_,Lf_i ?_⟩
 ·show closP Zk223 [.ptr [.lit (.string f.Kind),.sl .eVal f.Fields]] [daTask (List.getD l j zTask)]=_
  rw[hc];rfl
 ·exact idxI_congr fun j hj=>by
   show boolOf (closP Zk223 [.ptr [.lit (.string f.Kind),.sl .eVal f.Fields]] [daTask (List.getD l j zTask)])=_
   rw[hc];rfl
def Zh170:HH:=⟨_,Zo170⟩
def Zk101:Con UU where
 α:=(List DTask)
 md:=[.ro]
 of:=o1 (oL .eTask)
 ds:=fun x=>[dL .eTask x]
 pre:=fun _=>[]
 res:=fun l=>⟨[.one (.lit (.bool (tasksOk l)))],true,[]⟩
 law:=l1 (lL .eTask)
def Zi101_4(l:(List DTask)):Int×Unit→Prop:=fun(i,_)=>0≤i∧i≤l.length∧l.length≤30∧∀j:Nat,(j:Int)<i→taskAt l j=true
def Zm101_4(l:(List DTask)):Int×Unit→Nat:=fun(i,_)=>l.length-i.toNat
def Za101:Zk101.α→Nat→Option (Ann UU):=fun l=>annL [(4,annOf [.slot 10 (10,1024) (.lit (.int .i64))] (fun _=>Zi101_4 l) (Zm101_4 l))]
def Zu101:=us [Zh169,Zh170]
theorem Zv101(l:(List DTask)):goal EE Zu101 Go.Proofs.Tryz.f101 Zk101 Za101 l=(let x0:Int:=(l.length:Int);
bif decide (x0>(30:Int)) then Lf [DV.one (Cell.lit (Value.bool false))] [DV.one (Cell.lit (Value.bool (tasksOk l)))] else Zi101_4 l ((0:Int),PUnit.unit)∧∀(y:Int×PUnit),Zi101_4 l y→bif decide (y.1<x0) then(0:Int)≤y.1∧Int.toNat y.1<List.length l∧bif !taskOk (List.getD l (Int.toNat y.1) zTask) then Lf [DV.one (Cell.lit (Value.bool false))] [DV.one (Cell.lit (Value.bool (tasksOk l)))] else bif placeOf l (List.getD l (Int.toNat y.1) zTask).F !=y.1 then Lf [DV.one (Cell.lit (Value.bool false))] [DV.one (Cell.lit (Value.bool (tasksOk l)))] else Zi101_4 l (IntKind.wrap IntKind.i64 (y.1+(1:Int)),PUnit.unit)∧Zm101_4 l (IntKind.wrap IntKind.i64 (y.1+(1:Int)),PUnit.unit)<Zm101_4 l y else Lf [DV.one (Cell.lit (Value.bool true))] [DV.one (Cell.lit (Value.bool (tasksOk l)))]):=by kernel_rfl
theorem Zo101:Holds EE (101,Zk101):=by
 refine holds_of EE_ok Go.Proofs.Tryz.func101 Zk101 (by kernel_rfl) Zu101 (us_ok _) Za101 (fun(l:(List DTask)) hp hb=> ?_)
 have hl_l:l.length≤9223372036854775807:=bdL (hb _ m0)
 clear hp hb
 rw[Zv101 l]
 dsimp only
 refine if_cond (fun h=>Lf_ff ?_) (fun h=>⟨⟨by omega,by omega,by have h:=of_decide_eq_false h;omega,by intro j hj;omega⟩,?_⟩)
 ·have h:=of_decide_eq_true h;simp only[tasksOk];rw[decide_eq_false (by omega)];rfl
 rintro⟨i,⟨⟩⟩ ⟨h1,h2,h3,hR⟩
 simp only
 refine if_cond (fun hc=> ?_) (fun hc=> ?_)
 ·have hc:=of_decide_eq_true hc
  have hN:taskAt l i.toNat=false→tasksOk l=false:=fun h=>by
   have hf:allI l.length (taskAt l)=false:=allI_false (j:=i.toNat) (by omega) h
   simp only[tasksOk,hf];simp
  have hpl:(placeOf l (List.getD l i.toNat zTask).F=i)↔(anyI i.toNat fun k=>decide ((List.getD l k zTask).F=(List.getD l i.toNat zTask).F))=false:=by
   rw[anyI_not]
   unfold placeOf
   rcases idxI_cases l.length (fun k=>decide ((List.getD l k zTask).F=(List.getD l i.toNat zTask).F)) with⟨g1,g2⟩|⟨m,g1,g2,g3,g4⟩
   ·have:=g2 i.toNat (by omega);simp at this
   ·rw[g2]
    constructor
    ·intro e j hj;exact g4 j (by omega)
    ·intro e
     by_cases hm:m<i.toNat
     ·have:=e m hm;rw[g3] at this;cases this
     ·by_cases hm':i.toNat<m
      ·have:=g4 i.toNat hm';simp at this
      ·omega
  simp(disch:=omega) only[wrap_i64]
  have hm:Zm101_4 l (i+1,PUnit.unit)<Zm101_4 l (i,()):=by simp only[Zm101_4];omega
  refine⟨by omega,by omega,if_cond (fun h=>Lf_ff (hN ?_)) (fun h=>if_cond (fun h'=>Lf_ff (hN ?_)) (fun h'=>⟨⟨by omega,by omega,h3,upto_step h1 hR ?_⟩,hm⟩))⟩
  ·simp only[taskAt];grind
  ·have:¬(placeOf l (List.getD l i.toNat zTask).F=i):=by simpa using h'
   rw[hpl] at this
   simp only[taskAt];grind
  ·have:placeOf l (List.getD l i.toNat zTask).F=i:=by simpa using h'
   rw[hpl] at this
   simp only[taskAt,this];grind
 ·have hc:=of_decide_eq_false hc
  have hA:allI l.length (taskAt l)=true:=allI_true fun j hj=>hR j (by omega)
  refine Lf_b ?_
  simp only[tasksOk,hA];grind
def Zh101:HH:=⟨_,Zo101⟩
end
end AM
