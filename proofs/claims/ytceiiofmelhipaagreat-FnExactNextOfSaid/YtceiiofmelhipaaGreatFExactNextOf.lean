/- Functions of the program with their contracts: put together by gen/link.py for FnExactNextOf. -/
import Derived.Test.YtceiiofmelhipaaGreatAmLib
namespace AM
open Go Go.Proofs.Tryz
set_option linter.unusedVariables false
set_option linter.unusedSimpArgs false
set_option maxRecDepth 100000
noncomputable section
theorem ve {p q : Prop} (h : p = q) (x : q) : p := by rw [h]; exact x
abbrev VB (b : Bool) : DV UU := .one (.lit (.bool b))
abbrev VI (n : Int) : DV UU := .one (.lit (.int .i64 n))
abbrev VS (s : ByteArray) : DV UU := .one (.lit (.string s))
abbrev CI (n : Int) : CC := .lit (.int .i64 n)
abbrev CS (s : ByteArray) : CC := .lit (.string s)
abbrev CO (b : Bool) : CC := .lit (.bool b)
abbrev CL (τ : Cd) (xs : List τ.T) : CC := .sl τ xs
abbrev VL (τ : Cd) (xs : List τ.T) : DV UU := .one (.sl τ xs)
instance:DecidableEq DVal:=fun _ _=>Classical.propDecidable _
instance:DecidableEq DFact:=fun _ _=>Classical.propDecidable _
instance:DecidableEq DItem:=fun _ _=>Classical.propDecidable _
instance:DecidableEq DStore:=fun _ _=>Classical.propDecidable _
instance:DecidableEq DArg:=fun _ _=>Classical.propDecidable _
instance:DecidableEq DPat:=fun _ _=>Classical.propDecidable _
instance:DecidableEq DBind:=fun _ _=>Classical.propDecidable _
instance:DecidableEq DCond:=fun _ _=>Classical.propDecidable _
instance:DecidableEq DExpr:=fun _ _=>Classical.propDecidable _
instance:DecidableEq DAct:=fun _ _=>Classical.propDecidable _
instance:DecidableEq DRule:=fun _ _=>Classical.propDecidable _
instance:DecidableEq DDef:=fun _ _=>Classical.propDecidable _
instance:DecidableEq DMatch:=fun _ _=>Classical.propDecidable _
instance:DecidableEq DEffect:=fun _ _=>Classical.propDecidable _
instance:DecidableEq DTimer:=fun _ _=>Classical.propDecidable _
instance:DecidableEq DTask:=fun _ _=>Classical.propDecidable _
instance:DecidableEq DUndo:=fun _ _=>Classical.propDecidable _
instance:DecidableEq DInst:=fun _ _=>Classical.propDecidable _
def mtl:Nat→Nat→List UInt8→List UInt8
 |0,_,acc=>acc
 |d+1,k,acc=>if k=0 then acc else mtl d (k/10) ((UInt8.ofNat (48+k%10))::acc)
def markText(k:Int):ByteArray:=if k≤0 then⟨#[109,48]⟩ else⟨(109::mtl k.toNat k.toNat []).toArray⟩
def markBool(k:Int):Bool:=decide (k%3=0)
def mkS{α:Type}(f:α→Int→α)(c:α→Nat):List α→Int→List α
 |[],_=>[]
 |x::r,k=>f x k::mkS f c r (k+c x)
def ctS{α:Type}(c:α→Nat)(l:List α):Nat:=(l.map c).sum
theorem mkS_len{α:Type}(f:α→Int→α)(c:α→Nat):∀(l:List α)(k:Int),(mkS f c l k).length=l.length
 |[],_=>rfl
 |x::r,k=>by simp[mkS,mkS_len f c r]
theorem mkS_ct{α:Type}{f:α→Int→α}{c:α→Nat}(h:∀x k,c (f x k)=c x):∀(l:List α)(k:Int),ctS c (mkS f c l k)=ctS c l
 |[],_=>rfl
 |x::r,k=>by have:=mkS_ct h r (k+c x);simp only[ctS,mkS,zbt,zdc,h] at*;omega
theorem mkS_idem{α:Type}{f:α→Int→α}{c:α→Nat}(h:∀x k,c (f x k)=c x)(h':∀x k,f (f x k) k=f x k):∀(l:List α)(k:Int),mkS f c (mkS f c l k) k=mkS f c l k
 |[],_=>rfl
 |x::r,k=>by simp only[mkS,h,h',mkS_idem h h' r]
theorem ctS_cons{α:Type}(c:α→Nat)(x:α)(l:List α):ctS c (x::l)=c x+ctS c l:=by simp[ctS]
theorem ctS_append{α:Type}(c:α→Nat)(l m:List α):ctS c (l++m)=ctS c l+ctS c m:=by simp[ctS]
theorem ctS_le{α:Type}{c s:α→Nat}(h:∀x,c x≤20*s x+20):∀l:List α,ctS c l≤20*(l.length+(l.map s).sum)
 |[]=>zca _
 |x::r=>by have:=ctS_le h r;have:=h x;simp only[ctS,zbt,zdc,zbq] at*;omega
theorem ctS_take{α:Type}(c:α→Nat)(l:List α)(z:α){i:Int}(h0:0≤i)(h:i<l.length):ctS c (l.take (i+1).toNat)=ctS c (l.take i.toNat)+c (List.getD l i.toNat z):=by
 have hn:i.toNat<l.length:=by omega
 have e:(i+1).toNat=i.toNat+1:=by omega
 rw[e,zcz hn,ctS_append,zac,zad hn]
 simp[ctS]
theorem ctS_take_le{α:Type}(c:α→Nat)(l:List α)(n:Nat):ctS c (l.take n)≤ctS c l:=by
 have h:=ctS_append c (l.take n) (l.drop n)
 rw[zcq] at h
 omega
theorem mkS_append{α:Type}(f:α→Int→α)(c:α→Nat):∀(l m:List α)(k:Int),mkS f c (l++m) k=mkS f c l k++mkS f c m (k+ctS c l)
 |[],m,k=>by simp[mkS,ctS]
 |x::r,m,k=>by simp only[zex,mkS,mkS_append f c r m,ctS_cons];congr 3;omega
theorem mkS_step{α:Type}(f:α→Int→α)(c:α→Nat)(l:List α)(z:α)(k:Int){i:Int}(h0:0≤i)(h:i<l.length):
  ((mkS f c l k).take i.toNat++l.drop i.toNat).set i.toNat (f (List.getD l i.toNat z) (k+ctS c (l.take i.toNat)))=(mkS f c l k).take (i+1).toNat++l.drop (i+1).toNat:=by
 have hn:i.toNat<l.length:=by omega
 have e:(i+1).toNat=i.toNat+1:=by omega
 have hl:((mkS f c l k).take i.toNat).length=i.toNat:=by rw[zaw,mkS_len];omega
 have hm:(mkS f c l k)[i.toNat]? =some (f (List.getD l i.toNat z) (k+ctS c (l.take i.toNat))):=by
  have h1:l=l.take i.toNat++List.getD l i.toNat z::l.drop (i+1).toNat:=by rw[←drop_step l z h0 h,zcq]
  have h2:=congrArg (fun q=>(mkS f c q k)[i.toNat]?) h1
  simp only[mkS_append,mkS] at h2
  rw[h2,zap (by rw[mkS_len,zaw];omega),mkS_len]
  have:i.toNat-(l.take i.toNat).length=0:=by simp;omega
  rw[this];rfl
 have hm':i.toNat<(mkS f c l k).length:=by rw[mkS_len];exact hn
 rw[zad hm',zae] at hm
 rw[drop_step l z h0 h,List.set_append_right _ _ (by rw[hl];exact zca _),hl,zev,List.set_cons_zero,e,zcz hm',hm,zbr]
 rfl
theorem mk_getD{α:Type}(p:List α)(l:List α)(z:α){i:Int}(hp:p.length=i.toNat)(h0:0≤i)(h:i<l.length):List.getD (p++l.drop i.toNat) i.toNat z=List.getD l i.toNat z:=by
 rw[zac,zac,zap (by omega),hp,zev,zbv,zcv]
theorem sum_getD_le{α:Type}(f:α→Nat)(l:List α)(z:α){i:Int}(h0:0≤i)(h:i<l.length):f (List.getD l i.toNat z)≤(l.map f).sum:=by
 have h1:l=l.take i.toNat++List.getD l i.toNat z::l.drop (i+1).toNat:=by rw[←drop_step l z h0 h,zcq]
 have h2:=congrArg (fun q=>(q.map f).sum) h1
 simp only[zef,zbt,zet,zdc] at h2
 omega
theorem getD_modify{α:Type}(l:List α)(z:α)(f:α→α)(i:Nat)(h:i<l.length):List.getD (l.modify i f) i z=f (List.getD l i z):=by
 rw[zac,zac,zei,zad h];simp
theorem modify_modify{α:Type}(l:List α)(f g:α→α)(i:Nat):(l.modify i f).modify i g=l.modify i (fun x=>g (f x)):=List.modify_modify_eq f g i l
theorem modify_set{α:Type}(l:List α)(z:α)(f:α→α)(i:Nat):l.modify i f=l.set i (f (List.getD l i z)):=by
 refine zcx fun j=> ?_
 rw[zei,zdh]
 by_cases hj:i=j
 ·subst hj
  rw[if_pos rfl]
  by_cases hi:i<l.length
  ·rw[if_pos hi,zad hi,zac,zad hi];simp
  ·rw[if_neg hi,zaj (by omega)];rfl
 ·rw[if_neg hj];simp[hj]
theorem mk_tl{α:Type}(f:α→Int→α)(c:α→Nat)(l:List α)(k:Int){i:Int}(h0:0≤i)(h:i≤l.length):((mkS f c l k).take i.toNat).length=i.toNat:=by rw[zaw,mkS_len];omega
theorem mk_rl{α:Type}(f:α→Int→α)(c:α→Nat)(l:List α)(k:Int){i:Int}(h0:0≤i)(h:i≤l.length):((mkS f c l k).take i.toNat++l.drop i.toNat).length=l.length:=by rw[zce,mk_tl f c l k h0 h,zcs];omega
theorem mkS_mod{α:Type}(f:α→Int→α)(c:α→Nat)(l:List α)(z:α)(k:Int){i:Int}(F:α→α)(h0:0≤i)(h:i<l.length)(hF:F (List.getD l i.toNat z)=f (List.getD l i.toNat z) (k+ctS c (l.take i.toNat))):
  ((mkS f c l k).take i.toNat++l.drop i.toNat).modify i.toNat F=(mkS f c l k).take (i+1).toNat++l.drop (i+1).toNat:=by
 rw[modify_set _ z,mk_getD _ l z (mk_tl f c l k h0 (by omega)) h0 h,hF]
 exact mkS_step f c l z k h0 h
theorem mk_done{α:Type}(f:α→Int→α)(c:α→Nat)(l:List α)(k:Int){i:Int}(h:l.length≤i):(mkS f c l k).take i.toNat++l.drop i.toNat=mkS f c l k:=by
 rw[List.drop_eq_nil_of_le (by omega),zch,zcy (by rw[mkS_len];omega)]
theorem ct_done{α:Type}(c:α→Nat)(l:List α){i:Int}(h:l.length≤i):ctS c (l.take i.toNat)=ctS c l:=by rw[zcy (by omega)]
theorem Lf_no{p:Prop}[Decidable p]{n:Int}(h:¬p):Lf [.one (.lit (.int .i64 (-1)))] [.one (.lit (.int .i64 (if p then n else-1)))]:=by rw[if_neg h];exact Lf_rfl _
theorem Lf_yes{p:Prop}[Decidable p]{m n:Int}(h:p)(e:m=n):Lf [.one (.lit (.int .i64 m))] [.one (.lit (.int .i64 (if p then n else-1)))]:=by rw[if_pos h,e];exact Lf_rfl _
theorem bne_int{a b:Int}:(a !=b)= !decide (a=b):=by by_cases h:a=b<;>simp[h,bne]
theorem mtl_zero(d:Nat)(acc:List UInt8):mtl d 0 acc=acc:=by cases d<;>simp[mtl]
theorem all_step{α:Type}(p:α→Bool)(l:List α)(z:α){i:Int}(h0:0≤i)(h:i<l.length):(l.drop i.toNat).all p=(p (List.getD l i.toNat z)&&(l.drop (i+1).toNat).all p):=by
 rw[drop_step l z h0 h,zdr]
theorem any_step{α:Type}(p:α→Bool)(l:List α)(z:α){i:Int}(h0:0≤i)(h:i<l.length):(l.drop i.toNat).any p=(p (List.getD l i.toNat z)||(l.drop (i+1).toNat).any p):=by
 rw[drop_step l z h0 h,zeg]
def bs(s:ByteArray):List UInt8:=s.data.toList
theorem bs_len(s:ByteArray):(bs s).length=s.size:=zbn
theorem bs_eq(s:ByteArray):Array.toList (ByteArray.data s)=bs s:=rfl
def byteP(p:Int→Bool)(b:UInt8):Bool:=p b.toNat
theorem u8_i64(b:UInt8):IntKind.wrap .i64 (b.toNat:Int)=b.toNat:=wrap_i64 (by omega) (by have:=b.toNat_lt;omega)
theorem Lf_tt{y:Bool}(h:y=true):Lf [.one (.lit (.bool true))] [.one (.lit (.bool y))]:=Lf_b h.symm
theorem Lf_ff{y:Bool}(h:y=false):Lf [.one (.lit (.bool false))] [.one (.lit (.bool y))]:=Lf_b h.symm
theorem take_step{α:Type}(l:List α)(z:α){i:Int}(h0:0≤i)(h:i<l.length):l.take i.toNat++[List.getD l i.toNat z]=l.take (i+1).toNat:=by
 have hn:i.toNat<l.length:=by omega
 have e:(i+1).toNat=i.toNat+1:=by omega
 rw[e,zcz hn,zac,zad hn]
 rfl
theorem take_all{α:Type}(l:List α){i:Int}(h:l.length≤i):l.take i.toNat=l:=zcy (by omega)
theorem szr_neg{a:Int}{n:Nat}(h:decide (szr a n<0)=true):a<n:=by
 have h:=of_decide_eq_true h
 unfold szr at h;split at h<;>omega
theorem szr_pos{a:Int}{n:Nat}(h:decide (szr a n<0)=false):szr a n=a-n∧(n:Int)≤a:=by
 have h:=of_decide_eq_false h
 unfold szr at h⊢;split at h
 ·rename_i g;rw[if_pos g];exact⟨rfl,g⟩
 ·omega
theorem szr_bad'{a:Int}{n:Nat}(h:a<n): -1=szr a n:=by simp only[szr];rw[if_neg (by omega)]
theorem szr_ok'{a:Int}{n:Nat}(h:(n:Int)≤a):a-n=szr a n:=by simp only[szr];rw[if_pos h]
def sizeIntS(l:List Int):Nat:=l.length
def markIntS:List Int→Int→List Int:=mkS (fun _ k=>k) (fun _=>1)
def cntIntS(l:List Int):Nat:=ctS (fun _=>1) l
theorem markIntS_ct(l:List Int)(k:Int):cntIntS (markIntS l k)=cntIntS l:=mkS_ct (c:=fun _=>1) (fun _ _=>rfl) l k
theorem markIntS_idem(l:List Int)(k:Int):markIntS (markIntS l k) k=markIntS l k:=mkS_idem (f:=fun _ k=>k) (c:=fun _=>1) (fun _ _=>rfl) (fun _ _=>rfl) l k
theorem ctS_one{α:Type}:∀l:List α,ctS (fun _=>1) l=l.length
 |[]=>rfl
 |x::r=>by rw[ctS_cons,ctS_one r,zbq];omega
theorem cntIntS_le(l:List Int):cntIntS l≤20*sizeIntS l:=by simp only[cntIntS,sizeIntS,ctS_one];omega
def sizeVal(a:DVal):Nat:=a.S.size
def sizeValS(l:List DVal):Nat:=l.length+(l.map sizeVal).sum
def markVal(a:DVal)(k:Int):DVal:=⟨k,(k+1),markText (k+1+1)⟩
def cntVal(a:DVal):Nat:=1+1+1
def markValS:List DVal→Int→List DVal:=mkS markVal cntVal
def cntValS(l:List DVal):Nat:=ctS cntVal l
theorem cntVal_le(a:DVal):cntVal a≤20*sizeVal a+20:=by simp only[cntVal,sizeVal];omega
theorem cntValS_le(l:List DVal):cntValS l≤20*sizeValS l:=ctS_le cntVal_le l
def sizeFact(a:DFact):Nat:=a.Kind.size+sizeValS a.Fields
def sizeItem(a:DItem):Nat:=sizeFact a.F
def sizeItemS(l:List DItem):Nat:=l.length+(l.map sizeItem).sum
def markItem(a:DItem)(k:Int):DItem:=⟨k,⟨markText (k+1),markValS a.F.Fields (k+1+1)⟩⟩
def cntItem(a:DItem):Nat:=1+1+cntValS a.F.Fields
def markItemS:List DItem→Int→List DItem:=mkS markItem cntItem
def cntItemS(l:List DItem):Nat:=ctS cntItem l
theorem cntItem_le(a:DItem):cntItem a≤20*sizeItem a+20:=by have:=cntValS_le a.F.Fields;simp only[cntItem,sizeFact,sizeItem];omega
theorem cntItemS_le(l:List DItem):cntItemS l≤20*sizeItemS l:=ctS_le cntItem_le l
def sizeStore(a:DStore):Nat:=sizeItemS a.Items
def mkStore(a:DStore)(k:Int):DStore:=⟨markItemS a.Items k,a.Next⟩
def ctStore(a:DStore):Nat:=cntItemS a.Items
theorem ctStore_le(a:DStore):ctStore a≤20*sizeStore a:=by have:=cntItemS_le a.Items;simp only[ctStore,sizeStore];omega
def sizeArg(a:DArg):Nat:=a.S.size+sizeVal a.V
def sizeArgS(l:List DArg):Nat:=l.length+(l.map sizeArg).sum
def markArg(a:DArg)(k:Int):DArg:=⟨k,markText (k+1),⟨(k+1+1),(k+1+1+1),markText (k+1+1+1+1)⟩⟩
def cntArg(a:DArg):Nat:=1+1+1+1+1
def markArgS:List DArg→Int→List DArg:=mkS markArg cntArg
def cntArgS(l:List DArg):Nat:=ctS cntArg l
theorem cntArg_le(a:DArg):cntArg a≤20*sizeArg a+20:=by simp only[cntArg,sizeArg,sizeVal];omega
theorem cntArgS_le(l:List DArg):cntArgS l≤20*sizeArgS l:=ctS_le cntArg_le l
def sizePat(a:DPat):Nat:=a.Kind.size+sizeArgS a.Args
def sizePatS(l:List DPat):Nat:=l.length+(l.map sizePat).sum
def markPat(a:DPat)(k:Int):DPat:=⟨markText k,markArgS a.Args (k+1),markBool (k+1+cntArgS a.Args)⟩
def cntPat(a:DPat):Nat:=1+cntArgS a.Args+1
def markPatS:List DPat→Int→List DPat:=mkS markPat cntPat
def cntPatS(l:List DPat):Nat:=ctS cntPat l
theorem cntPat_le(a:DPat):cntPat a≤20*sizePat a+20:=by have:=cntArgS_le a.Args;simp only[cntPat,sizePat];omega
theorem cntPatS_le(l:List DPat):cntPatS l≤20*sizePatS l:=ctS_le cntPat_le l
def sizeBind(a:DBind):Nat:=a.Name.size+sizeVal a.V
def sizeBindS(l:List DBind):Nat:=l.length+(l.map sizeBind).sum
def markBind(a:DBind)(k:Int):DBind:=⟨markText k,⟨(k+1),(k+1+1),markText (k+1+1+1)⟩⟩
def cntBind(a:DBind):Nat:=1+1+1+1
def markBindS:List DBind→Int→List DBind:=mkS markBind cntBind
def cntBindS(l:List DBind):Nat:=ctS cntBind l
theorem markBind_ct(a:DBind)(k:Int):cntBind (markBind a k)=cntBind a:=by simp only[cntBind,markBind]
theorem markBind_idem(a:DBind)(k:Int):markBind (markBind a k) k=markBind a k:=by simp only[markBind]
theorem cntBind_le(a:DBind):cntBind a≤20*sizeBind a+20:=by simp only[cntBind,sizeBind,sizeVal];omega
theorem markBindS_ct(l:List DBind)(k:Int):cntBindS (markBindS l k)=cntBindS l:=mkS_ct markBind_ct l k
theorem markBindS_idem(l:List DBind)(k:Int):markBindS (markBindS l k) k=markBindS l k:=mkS_idem markBind_ct markBind_idem l k
theorem cntBindS_le(l:List DBind):cntBindS l≤20*sizeBindS l:=ctS_le cntBind_le l
def sizeCond(a:DCond):Nat:=sizeArg a.L+sizeArg a.R
def sizeCondS(l:List DCond):Nat:=l.length+(l.map sizeCond).sum
def markCond(a:DCond)(k:Int):DCond:=⟨k,⟨(k+1),markText (k+1+1),⟨(k+1+1+1),(k+1+1+1+1),markText (k+1+1+1+1+1)⟩⟩,⟨(k+1+1+1+1+1+1),markText (k+1+1+1+1+1+1+1),⟨(k+1+1+1+1+1+1+1+1),(k+1+1+1+1+1+1+1+1+1),markText (k+1+1+1+1+1+1+1+1+1+1)⟩⟩⟩
def cntCond(a:DCond):Nat:=1+1+1+1+1+1+1+1+1+1+1
def markCondS:List DCond→Int→List DCond:=mkS markCond cntCond
def cntCondS(l:List DCond):Nat:=ctS cntCond l
theorem cntCond_le(a:DCond):cntCond a≤20*sizeCond a+20:=by simp only[cntCond,sizeArg,sizeCond,sizeVal];omega
theorem cntCondS_le(l:List DCond):cntCondS l≤20*sizeCondS l:=ctS_le cntCond_le l
def sizeExpr(a:DExpr):Nat:=a.Op.size+sizeArg a.L+sizeArg a.R
def sizeExprS(l:List DExpr):Nat:=l.length+(l.map sizeExpr).sum
def markExpr(a:DExpr)(k:Int):DExpr:=⟨markText k,⟨(k+1),markText (k+1+1),⟨(k+1+1+1),(k+1+1+1+1),markText (k+1+1+1+1+1)⟩⟩,⟨(k+1+1+1+1+1+1),markText (k+1+1+1+1+1+1+1),⟨(k+1+1+1+1+1+1+1+1),(k+1+1+1+1+1+1+1+1+1),markText (k+1+1+1+1+1+1+1+1+1+1)⟩⟩⟩
def cntExpr(a:DExpr):Nat:=1+1+1+1+1+1+1+1+1+1+1
def markExprS:List DExpr→Int→List DExpr:=mkS markExpr cntExpr
def cntExprS(l:List DExpr):Nat:=ctS cntExpr l
theorem cntExpr_le(a:DExpr):cntExpr a≤20*sizeExpr a+20:=by simp only[cntExpr,sizeArg,sizeExpr,sizeVal];omega
theorem cntExprS_le(l:List DExpr):cntExprS l≤20*sizeExprS l:=ctS_le cntExpr_le l
def sizeAct(a:DAct):Nat:=a.Name.size+sizeExprS a.Args+a.Undo.size
def sizeActS(l:List DAct):Nat:=l.length+(l.map sizeAct).sum
def markAct(a:DAct)(k:Int):DAct:=⟨k,markText (k+1),markExprS a.Args (k+1+1),(k+1+1+cntExprS a.Args),markText (k+1+1+cntExprS a.Args+1)⟩
def cntAct(a:DAct):Nat:=1+1+cntExprS a.Args+1+1
def markActS:List DAct→Int→List DAct:=mkS markAct cntAct
def cntActS(l:List DAct):Nat:=ctS cntAct l
theorem cntAct_le(a:DAct):cntAct a≤20*sizeAct a+20:=by have:=cntExprS_le a.Args;simp only[cntAct,sizeAct];omega
theorem cntActS_le(l:List DAct):cntActS l≤20*sizeActS l:=ctS_le cntAct_le l
def sizeRule(a:DRule):Nat:=a.Name.size+sizePatS a.Pats+sizeCondS a.Conds+sizeActS a.Acts
def sizeRuleS(l:List DRule):Nat:=l.length+(l.map sizeRule).sum
def markRule(a:DRule)(k:Int):DRule:=⟨markText k,(k+1),markPatS a.Pats (k+1+1),markCondS a.Conds (k+1+1+cntPatS a.Pats),markActS a.Acts (k+1+1+cntPatS a.Pats+cntCondS a.Conds)⟩
def cntRule(a:DRule):Nat:=1+1+cntPatS a.Pats+cntCondS a.Conds+cntActS a.Acts
def markRuleS:List DRule→Int→List DRule:=mkS markRule cntRule
def cntRuleS(l:List DRule):Nat:=ctS cntRule l
theorem cntRule_le(a:DRule):cntRule a≤20*sizeRule a+20:=by have:=cntPatS_le a.Pats;have:=cntCondS_le a.Conds;have:=cntActS_le a.Acts;simp only[cntRule,sizeRule];omega
theorem cntRuleS_le(l:List DRule):cntRuleS l≤20*sizeRuleS l:=ctS_le cntRule_le l
def sizeDef(a:DDef):Nat:=a.Name.size+sizeRuleS a.Rules
def mkDef(a:DDef)(k:Int):DDef:=⟨a.Name,markRuleS a.Rules k⟩
def ctDef(a:DDef):Nat:=cntRuleS a.Rules
theorem ctDef_le(a:DDef):ctDef a≤20*sizeDef a:=by have:=cntRuleS_le a.Rules;simp only[ctDef,sizeDef];omega
def sizeMatch(a:DMatch):Nat:=sizeIntS a.Ids+sizeBindS a.Binds
def sizeMatchS(l:List DMatch):Nat:=l.length+(l.map sizeMatch).sum
def markMatch(a:DMatch)(k:Int):DMatch:=⟨k,markIntS a.Ids (k+1),markBindS a.Binds (k+1+cntIntS a.Ids)⟩
def cntMatch(a:DMatch):Nat:=1+cntIntS a.Ids+cntBindS a.Binds
def markMatchS:List DMatch→Int→List DMatch:=mkS markMatch cntMatch
def cntMatchS(l:List DMatch):Nat:=ctS cntMatch l
theorem cntMatch_le(a:DMatch):cntMatch a≤20*sizeMatch a+20:=by have:=cntIntS_le a.Ids;have:=cntBindS_le a.Binds;simp only[cntMatch,sizeMatch];omega
theorem cntMatchS_le(l:List DMatch):cntMatchS l≤20*sizeMatchS l:=ctS_le cntMatch_le l
def mkMatch(a:DMatch)(k:Int):DMatch:=⟨a.Rule,markIntS a.Ids k,markBindS a.Binds (k+cntIntS a.Ids)⟩
def ctMatch(a:DMatch):Nat:=cntIntS a.Ids+cntBindS a.Binds
theorem mkMatch_eta(a:DMatch)(k:Int):(⟨a.Rule,(mkMatch a k).Ids,(mkMatch a k).Binds⟩:DMatch)=mkMatch a k:=rfl
theorem mkMatch_ct(a:DMatch)(k:Int):ctMatch (mkMatch a k)=ctMatch a:=by simp only[ctMatch,mkMatch,markBindS_ct,markIntS_ct]
theorem mkMatch_idem(a:DMatch)(k:Int):mkMatch (mkMatch a k) k=mkMatch a k:=by simp only[mkMatch,markBindS_ct,markBindS_idem,markIntS_ct,markIntS_idem]
def sizeTimer(a:DTimer):Nat:=sizeFact a.F
def sizeTimerS(l:List DTimer):Nat:=l.length+(l.map sizeTimer).sum
def markTimer(a:DTimer)(k:Int):DTimer:=⟨k,⟨markText (k+1),markValS a.F.Fields (k+1+1)⟩⟩
def cntTimer(a:DTimer):Nat:=1+1+cntValS a.F.Fields
def markTimerS:List DTimer→Int→List DTimer:=mkS markTimer cntTimer
def cntTimerS(l:List DTimer):Nat:=ctS cntTimer l
theorem cntTimer_le(a:DTimer):cntTimer a≤20*sizeTimer a+20:=by have:=cntValS_le a.F.Fields;simp only[cntTimer,sizeFact,sizeTimer];omega
theorem cntTimerS_le(l:List DTimer):cntTimerS l≤20*sizeTimerS l:=ctS_le cntTimer_le l
def sizeTask(a:DTask):Nat:=sizeFact a.F+a.Undo.size+sizeVal a.V
def sizeTaskS(l:List DTask):Nat:=l.length+(l.map sizeTask).sum
def markTask(a:DTask)(k:Int):DTask:=⟨⟨markText k,markValS a.F.Fields (k+1)⟩,markText (k+1+cntValS a.F.Fields),(k+1+cntValS a.F.Fields+1),(k+1+cntValS a.F.Fields+1+1),(k+1+cntValS a.F.Fields+1+1+1),⟨(k+1+cntValS a.F.Fields+1+1+1+1),(k+1+cntValS a.F.Fields+1+1+1+1+1),markText (k+1+cntValS a.F.Fields+1+1+1+1+1+1)⟩⟩
def cntTask(a:DTask):Nat:=1+cntValS a.F.Fields+1+1+1+1+1+1+1
def markTaskS:List DTask→Int→List DTask:=mkS markTask cntTask
def cntTaskS(l:List DTask):Nat:=ctS cntTask l
theorem cntTask_le(a:DTask):cntTask a≤20*sizeTask a+20:=by have:=cntValS_le a.F.Fields;simp only[cntTask,sizeFact,sizeTask,sizeVal];omega
theorem cntTaskS_le(l:List DTask):cntTaskS l≤20*sizeTaskS l:=ctS_le cntTask_le l
def sizeUndo(a:DUndo):Nat:=a.Key.size+sizeFact a.F
def sizeUndoS(l:List DUndo):Nat:=l.length+(l.map sizeUndo).sum
def markUndo(a:DUndo)(k:Int):DUndo:=⟨markText k,⟨markText (k+1),markValS a.F.Fields (k+1+1)⟩⟩
def cntUndo(a:DUndo):Nat:=1+1+cntValS a.F.Fields
def markUndoS:List DUndo→Int→List DUndo:=mkS markUndo cntUndo
def cntUndoS(l:List DUndo):Nat:=ctS cntUndo l
theorem cntUndo_le(a:DUndo):cntUndo a≤20*sizeUndo a+20:=by have:=cntValS_le a.F.Fields;simp only[cntUndo,sizeFact,sizeUndo];omega
theorem cntUndoS_le(l:List DUndo):cntUndoS l≤20*sizeUndoS l:=ctS_le cntUndo_le l
def sizeInst(a:DInst):Nat:=sizeStore a.S+sizeMatchS a.Fired+sizeTaskS a.Tasks+sizeTimerS a.Timers+sizeUndoS a.Undos
def mkInst(a:DInst)(k:Int):DInst:=⟨mkStore a.S k,markMatchS a.Fired (k+ctStore a.S),markTaskS a.Tasks (k+ctStore a.S+cntMatchS a.Fired),markTimerS a.Timers (k+ctStore a.S+cntMatchS a.Fired+cntTaskS a.Tasks),markUndoS a.Undos (k+ctStore a.S+cntMatchS a.Fired+cntTaskS a.Tasks+cntTimerS a.Timers),a.State,a.Now⟩
def ctInst(a:DInst):Nat:=ctStore a.S+cntMatchS a.Fired+cntTaskS a.Tasks+cntTimerS a.Timers+cntUndoS a.Undos
theorem ctInst_le(a:DInst):ctInst a≤20*sizeInst a:=by have:=ctStore_le a.S;have:=cntMatchS_le a.Fired;have:=cntTaskS_le a.Tasks;have:=cntTimerS_le a.Timers;have:=cntUndoS_le a.Undos;simp only[ctInst,sizeInst];omega
theorem bd_eVal{x:DVal}(h:BdDV (dA .eVal x)):x.S.size≤9223372036854775807:=Bd.str (U:=UU) (h _ (zaa _ (zaa _ (zab))))
theorem bd_lVal{x:DVal}(h:BdDV (dA .lVal x)):x.S.size≤9223372036854775807:=Bd.str (U:=UU) (h _ (zaa _ (zaa _ (zab))))
theorem bd_eFact{x:DFact}(h:BdDV (dA .eFact x)):x.Kind.size≤9223372036854775807∧x.Fields.length≤9223372036854775807:=⟨Bd.str (U:=UU) (h _ (zab)),Bd.len (U:=UU) (h _ (zaa _ (zab)))⟩
theorem bdP_eFact{x:DFact}(h:BdDV (dP .eFact x)):x.Kind.size≤9223372036854775807∧x.Fields.length≤9223372036854775807:=⟨Bd.str (U:=UU) (h _ (zab)),Bd.len (U:=UU) (h _ (zaa _ (zab)))⟩
theorem bd_lFact{x:DFact}(h:BdDV (dA .lFact x)):x.Kind.size≤9223372036854775807∧x.Fields.length≤9223372036854775807:=⟨Bd.str (U:=UU) (h _ (zab)),Bd.len (U:=UU) (h _ (zaa _ (zab)))⟩
theorem bd_eItem{x:DItem}(h:BdDV (dA .eItem x)):x.F.Kind.size≤9223372036854775807∧x.F.Fields.length≤9223372036854775807:=⟨Bd.str (U:=UU) (h _ (zaa _ (zab))),Bd.len (U:=UU) (h _ (zaa _ (zaa _ (zab))))⟩
theorem bd_lItem{x:DItem}(h:BdDV (dA .lItem x)):x.F.Kind.size≤9223372036854775807∧x.F.Fields.length≤9223372036854775807:=⟨Bd.str (U:=UU) (h _ (zaa _ (zab))),Bd.len (U:=UU) (h _ (zaa _ (zaa _ (zab))))⟩
theorem bd_eStore{x:DStore}(h:BdDV (dA .eStore x)):x.Items.length≤9223372036854775807:=Bd.len (U:=UU) (h _ (zab))
theorem bd_lStore{x:DStore}(h:BdDV (dA .lStore x)):x.Items.length≤9223372036854775807:=Bd.len (U:=UU) (h _ (zab))
theorem bd_eArg{x:DArg}(h:BdDV (dA .eArg x)):x.S.size≤9223372036854775807∧x.V.S.size≤9223372036854775807:=⟨Bd.str (U:=UU) (h _ (zaa _ (zab))),Bd.str (U:=UU) (h _ (zaa _ (zaa _ (zaa _ (zaa _ (zab))))))⟩
theorem bd_lArg{x:DArg}(h:BdDV (dA .lArg x)):x.S.size≤9223372036854775807∧x.V.S.size≤9223372036854775807:=⟨Bd.str (U:=UU) (h _ (zaa _ (zab))),Bd.str (U:=UU) (h _ (zaa _ (zaa _ (zaa _ (zaa _ (zab))))))⟩
theorem bd_ePat{x:DPat}(h:BdDV (dA .ePat x)):x.Kind.size≤9223372036854775807∧x.Args.length≤9223372036854775807:=⟨Bd.str (U:=UU) (h _ (zab)),Bd.len (U:=UU) (h _ (zaa _ (zab)))⟩
theorem bd_lPat{x:DPat}(h:BdDV (dA .lPat x)):x.Kind.size≤9223372036854775807∧x.Args.length≤9223372036854775807:=⟨Bd.str (U:=UU) (h _ (zab)),Bd.len (U:=UU) (h _ (zaa _ (zab)))⟩
theorem bd_eBind{x:DBind}(h:BdDV (dA .eBind x)):x.Name.size≤9223372036854775807∧x.V.S.size≤9223372036854775807:=⟨Bd.str (U:=UU) (h _ (zab)),Bd.str (U:=UU) (h _ (zaa _ (zaa _ (zaa _ (zab)))))⟩
theorem bd_lBind{x:DBind}(h:BdDV (dA .lBind x)):x.Name.size≤9223372036854775807∧x.V.S.size≤9223372036854775807:=⟨Bd.str (U:=UU) (h _ (zab)),Bd.str (U:=UU) (h _ (zaa _ (zaa _ (zaa _ (zab)))))⟩
theorem bd_eCond{x:DCond}(h:BdDV (dA .eCond x)):x.L.S.size≤9223372036854775807∧x.L.V.S.size≤9223372036854775807∧x.R.S.size≤9223372036854775807∧x.R.V.S.size≤9223372036854775807:=⟨Bd.str (U:=UU) (h _ (zaa _ (zaa _ (zab)))),Bd.str (U:=UU) (h _ (zaa _ (zaa _ (zaa _ (zaa _ (zaa _ (zab))))))),Bd.str (U:=UU) (h _ (zaa _ (zaa _ (zaa _ (zaa _ (zaa _ (zaa _ (zaa _ (zab))))))))),Bd.str (U:=UU) (h _ (zaa _ (zaa _ (zaa _ (zaa _ (zaa _ (zaa _ (zaa _ (zaa _ (zaa _ (zaa _ (zab))))))))))))⟩
theorem bd_lCond{x:DCond}(h:BdDV (dA .lCond x)):x.L.S.size≤9223372036854775807∧x.L.V.S.size≤9223372036854775807∧x.R.S.size≤9223372036854775807∧x.R.V.S.size≤9223372036854775807:=⟨Bd.str (U:=UU) (h _ (zaa _ (zaa _ (zab)))),Bd.str (U:=UU) (h _ (zaa _ (zaa _ (zaa _ (zaa _ (zaa _ (zab))))))),Bd.str (U:=UU) (h _ (zaa _ (zaa _ (zaa _ (zaa _ (zaa _ (zaa _ (zaa _ (zab))))))))),Bd.str (U:=UU) (h _ (zaa _ (zaa _ (zaa _ (zaa _ (zaa _ (zaa _ (zaa _ (zaa _ (zaa _ (zaa _ (zab))))))))))))⟩
theorem bd_eExpr{x:DExpr}(h:BdDV (dA .eExpr x)):x.Op.size≤9223372036854775807∧x.L.S.size≤9223372036854775807∧x.L.V.S.size≤9223372036854775807∧x.R.S.size≤9223372036854775807∧x.R.V.S.size≤9223372036854775807:=⟨Bd.str (U:=UU) (h _ (zab)),Bd.str (U:=UU) (h _ (zaa _ (zaa _ (zab)))),Bd.str (U:=UU) (h _ (zaa _ (zaa _ (zaa _ (zaa _ (zaa _ (zab))))))),Bd.str (U:=UU) (h _ (zaa _ (zaa _ (zaa _ (zaa _ (zaa _ (zaa _ (zaa _ (zab))))))))),Bd.str (U:=UU) (h _ (zaa _ (zaa _ (zaa _ (zaa _ (zaa _ (zaa _ (zaa _ (zaa _ (zaa _ (zaa _ (zab))))))))))))⟩
theorem bd_lExpr{x:DExpr}(h:BdDV (dA .lExpr x)):x.Op.size≤9223372036854775807∧x.L.S.size≤9223372036854775807∧x.L.V.S.size≤9223372036854775807∧x.R.S.size≤9223372036854775807∧x.R.V.S.size≤9223372036854775807:=⟨Bd.str (U:=UU) (h _ (zab)),Bd.str (U:=UU) (h _ (zaa _ (zaa _ (zab)))),Bd.str (U:=UU) (h _ (zaa _ (zaa _ (zaa _ (zaa _ (zaa _ (zab))))))),Bd.str (U:=UU) (h _ (zaa _ (zaa _ (zaa _ (zaa _ (zaa _ (zaa _ (zaa _ (zab))))))))),Bd.str (U:=UU) (h _ (zaa _ (zaa _ (zaa _ (zaa _ (zaa _ (zaa _ (zaa _ (zaa _ (zaa _ (zaa _ (zab))))))))))))⟩
theorem bd_eAct{x:DAct}(h:BdDV (dA .eAct x)):x.Name.size≤9223372036854775807∧x.Args.length≤9223372036854775807∧x.Undo.size≤9223372036854775807:=⟨Bd.str (U:=UU) (h _ (zaa _ (zab))),Bd.len (U:=UU) (h _ (zaa _ (zaa _ (zab)))),Bd.str (U:=UU) (h _ (zaa _ (zaa _ (zaa _ (zaa _ (zab))))))⟩
theorem bd_lAct{x:DAct}(h:BdDV (dA .lAct x)):x.Name.size≤9223372036854775807∧x.Args.length≤9223372036854775807∧x.Undo.size≤9223372036854775807:=⟨Bd.str (U:=UU) (h _ (zaa _ (zab))),Bd.len (U:=UU) (h _ (zaa _ (zaa _ (zab)))),Bd.str (U:=UU) (h _ (zaa _ (zaa _ (zaa _ (zaa _ (zab))))))⟩
theorem bd_eRule{x:DRule}(h:BdDV (dA .eRule x)):x.Name.size≤9223372036854775807∧x.Pats.length≤9223372036854775807∧x.Conds.length≤9223372036854775807∧x.Acts.length≤9223372036854775807:=⟨Bd.str (U:=UU) (h _ (zab)),Bd.len (U:=UU) (h _ (zaa _ (zaa _ (zab)))),Bd.len (U:=UU) (h _ (zaa _ (zaa _ (zaa _ (zab))))),Bd.len (U:=UU) (h _ (zaa _ (zaa _ (zaa _ (zaa _ (zab))))))⟩
theorem bd_lRule{x:DRule}(h:BdDV (dA .lRule x)):x.Name.size≤9223372036854775807∧x.Pats.length≤9223372036854775807∧x.Conds.length≤9223372036854775807∧x.Acts.length≤9223372036854775807:=⟨Bd.str (U:=UU) (h _ (zab)),Bd.len (U:=UU) (h _ (zaa _ (zaa _ (zab)))),Bd.len (U:=UU) (h _ (zaa _ (zaa _ (zaa _ (zab))))),Bd.len (U:=UU) (h _ (zaa _ (zaa _ (zaa _ (zaa _ (zab))))))⟩
theorem bd_eDef{x:DDef}(h:BdDV (dA .eDef x)):x.Name.size≤9223372036854775807∧x.Rules.length≤9223372036854775807:=⟨Bd.str (U:=UU) (h _ (zab)),Bd.len (U:=UU) (h _ (zaa _ (zab)))⟩
theorem bd_lDef{x:DDef}(h:BdDV (dA .lDef x)):x.Name.size≤9223372036854775807∧x.Rules.length≤9223372036854775807:=⟨Bd.str (U:=UU) (h _ (zab)),Bd.len (U:=UU) (h _ (zaa _ (zab)))⟩
theorem bd_eMatch{x:DMatch}(h:BdDV (dA .eMatch x)):x.Ids.length≤9223372036854775807∧x.Binds.length≤9223372036854775807:=⟨Bd.len (U:=UU) (h _ (zaa _ (zab))),Bd.len (U:=UU) (h _ (zaa _ (zaa _ (zab))))⟩
theorem bdP_eMatch{x:DMatch}(h:BdDV (dP .eMatch x)):x.Ids.length≤9223372036854775807∧x.Binds.length≤9223372036854775807:=⟨Bd.len (U:=UU) (h _ (zaa _ (zab))),Bd.len (U:=UU) (h _ (zaa _ (zaa _ (zab))))⟩
theorem bd_lMatch{x:DMatch}(h:BdDV (dA .lMatch x)):x.Ids.length≤9223372036854775807∧x.Binds.length≤9223372036854775807:=⟨Bd.len (U:=UU) (h _ (zaa _ (zab))),Bd.len (U:=UU) (h _ (zaa _ (zaa _ (zab))))⟩
theorem bd_eTimer{x:DTimer}(h:BdDV (dA .eTimer x)):x.F.Kind.size≤9223372036854775807∧x.F.Fields.length≤9223372036854775807:=⟨Bd.str (U:=UU) (h _ (zaa _ (zab))),Bd.len (U:=UU) (h _ (zaa _ (zaa _ (zab))))⟩
theorem bd_lTimer{x:DTimer}(h:BdDV (dA .lTimer x)):x.F.Kind.size≤9223372036854775807∧x.F.Fields.length≤9223372036854775807:=⟨Bd.str (U:=UU) (h _ (zaa _ (zab))),Bd.len (U:=UU) (h _ (zaa _ (zaa _ (zab))))⟩
theorem bd_eTask{x:DTask}(h:BdDV (dA .eTask x)):x.F.Kind.size≤9223372036854775807∧x.F.Fields.length≤9223372036854775807∧x.Undo.size≤9223372036854775807∧x.V.S.size≤9223372036854775807:=⟨Bd.str (U:=UU) (h _ (zab)),Bd.len (U:=UU) (h _ (zaa _ (zab))),Bd.str (U:=UU) (h _ (zaa _ (zaa _ (zab)))),Bd.str (U:=UU) (h _ (zaa _ (zaa _ (zaa _ (zaa _ (zaa _ (zaa _ (zaa _ (zaa _ (zab))))))))))⟩
theorem bd_lTask{x:DTask}(h:BdDV (dA .lTask x)):x.F.Kind.size≤9223372036854775807∧x.F.Fields.length≤9223372036854775807∧x.Undo.size≤9223372036854775807∧x.V.S.size≤9223372036854775807:=⟨Bd.str (U:=UU) (h _ (zab)),Bd.len (U:=UU) (h _ (zaa _ (zab))),Bd.str (U:=UU) (h _ (zaa _ (zaa _ (zab)))),Bd.str (U:=UU) (h _ (zaa _ (zaa _ (zaa _ (zaa _ (zaa _ (zaa _ (zaa _ (zaa _ (zab))))))))))⟩
theorem bd_eUndo{x:DUndo}(h:BdDV (dA .eUndo x)):x.Key.size≤9223372036854775807∧x.F.Kind.size≤9223372036854775807∧x.F.Fields.length≤9223372036854775807:=⟨Bd.str (U:=UU) (h _ (zab)),Bd.str (U:=UU) (h _ (zaa _ (zab))),Bd.len (U:=UU) (h _ (zaa _ (zaa _ (zab))))⟩
theorem bd_lUndo{x:DUndo}(h:BdDV (dA .lUndo x)):x.Key.size≤9223372036854775807∧x.F.Kind.size≤9223372036854775807∧x.F.Fields.length≤9223372036854775807:=⟨Bd.str (U:=UU) (h _ (zab)),Bd.str (U:=UU) (h _ (zaa _ (zab))),Bd.len (U:=UU) (h _ (zaa _ (zaa _ (zab))))⟩
theorem bd_eInst{x:DInst}(h:BdDV (dA .eInst x)):x.S.Items.length≤9223372036854775807∧x.Fired.length≤9223372036854775807∧x.Tasks.length≤9223372036854775807∧x.Timers.length≤9223372036854775807∧x.Undos.length≤9223372036854775807:=⟨Bd.len (U:=UU) (h _ (zab)),Bd.len (U:=UU) (h _ (zaa _ (zaa _ (zab)))),Bd.len (U:=UU) (h _ (zaa _ (zaa _ (zaa _ (zab))))),Bd.len (U:=UU) (h _ (zaa _ (zaa _ (zaa _ (zaa _ (zab)))))),Bd.len (U:=UU) (h _ (zaa _ (zaa _ (zaa _ (zaa _ (zaa _ (zab)))))))⟩
theorem bd_lInst{x:DInst}(h:BdDV (dA .lInst x)):x.S.Items.length≤9223372036854775807∧x.Fired.length≤9223372036854775807∧x.Tasks.length≤9223372036854775807∧x.Timers.length≤9223372036854775807∧x.Undos.length≤9223372036854775807:=⟨Bd.len (U:=UU) (h _ (zab)),Bd.len (U:=UU) (h _ (zaa _ (zaa _ (zab)))),Bd.len (U:=UU) (h _ (zaa _ (zaa _ (zaa _ (zab))))),Bd.len (U:=UU) (h _ (zaa _ (zaa _ (zaa _ (zaa _ (zab)))))),Bd.len (U:=UU) (h _ (zaa _ (zaa _ (zaa _ (zaa _ (zaa _ (zab)))))))⟩
def rM1{α:Type}(a:List α):Int×Unit→Nat:=fun y=>a.length-y.1.toNat
def rM2{α β:Type}(a:List α):β×Int×Unit→Nat:=fun y=>a.length-y.2.1.toNat
def szI{α:Type}(f:α→Nat)(a:List α)(S:Nat)(left:Int):Int×Int×Unit→Prop:=fun y=>0≤y.1∧0≤y.2.1∧y.2.1≤a.length∧szr y.1 ((a.drop y.2.1.toNat).map f).sum=szr left S
def szV{α:Type}(f:α→Nat)(z:α)(a:List α)(S:Nat)(left:Int):Prop:=
 bif decide (IntKind.wrap .i64 (left-(a.length:Int))<0) then Li (-1) (szr left S)
 else szI f a S left (IntKind.wrap .i64 (left-(a.length:Int)),0,())∧∀y:Int×Int×PUnit,szI f a S left y→
  bif decide (y.2.1<(a.length:Int)) then 0≤y.2.1∧y.2.1.toNat<a.length∧0≤y.1∧
   bif decide (szr y.1 (f (a.getD y.2.1.toNat z))<0) then Li (-1) (szr left S)
   else szI f a S left (szr y.1 (f (a.getD y.2.1.toNat z)),IntKind.wrap .i64 (y.2.1+1),())∧rM2 a (szr y.1 (f (a.getD y.2.1.toNat z)),IntKind.wrap .i64 (y.2.1+1),())<rM2 a y
  else Li y.1 (szr left S)
theorem szV_ok{α:Type}{f:α→Nat}{z:α}{a:List α}{S:Nat}{left:Int}(hS:S=a.length+(a.map f).sum)(hp0:0≤left)(hl: -9223372036854775808≤left∧left≤9223372036854775807)(hla:a.length≤9223372036854775807):szV f z a S left:=by
 subst hS
 unfold szV
 rw[wrap_i64 (by omega) (by omega)]
 refine if_cond (fun h=>Lf_i ?_) (fun h=>⟨?_,?_⟩)
 ·simp[szr] at*;omega
 ·simp at h
  have h':0≤left-a.length:=by omega
  exact⟨h',by show(0:Int)≤0;omega,by show(0:Int)≤a.length;omega,szr_sub h'⟩
 rintro⟨lf,i,⟨⟩⟩ ⟨h0,h1,h2,hR⟩
 refine if_cond (fun hc=> ?_) (fun hc=> ?_)
 ·have hc:i<a.length:=by simpa using hc
  simp only at h0 h1 h2 hR⊢
  rw[drop_step a z h1 hc,zbt,zdc] at hR
  rw[wrap_i64 (by omega) (by omega)]
  generalize List.getD a i.toNat z=x at*
  refine⟨by omega,by omega,by omega,if_cond (fun h=>Lf_i ?_) (fun h=>⟨⟨?_,by show(0:Int)≤i+1;omega,by show i+1≤a.length;omega,?_⟩,?_⟩)⟩
  ·rw[←hR];exact(szr_bad (of_decide_eq_true h)).symm
  ·simp at h;exact h
  ·show szr (szr lf (f x)) _=_
   rw[←hR];simp at h;exact szr_szr h
  ·simp only[rM2];omega
 ·have hc:a.length≤i:=by simpa using hc
  simp only at h0 h1 h2 hR⊢
  rw[drop_end a hc] at hR
  apply Lf_i;rw[←hR];simp[szr,h0]
def toI{α:Type}(z:α)(a:List α):List α×Int×Unit→Prop:=fun y=>0≤y.2.1∧y.2.1≤a.length∧y.1=a.take y.2.1.toNat++List.replicate (a.length-y.2.1.toNat) z
def toV{α:Type}(f:α→Nat)(z:α)(a:List α)(L:List α→Prop):Prop:=
 0≤(a.length:Int)∧(a.length:Int)=(a.length:Int)∧(a.length:Int)≤4294967296∧toI z a (List.replicate (a.length:Int).toNat z,0,())∧
  ∀y:List α×Int×PUnit,toI z a y→bif decide (y.2.1<(a.length:Int)) then 0≤y.2.1∧y.2.1.toNat<a.length∧f (a.getD y.2.1.toNat z)≤4294967296∧0≤y.2.1∧y.2.1.toNat<y.1.length∧y.2.1.toNat<y.1.length∧
   toI z a (y.1.set y.2.1.toNat (a.getD y.2.1.toNat z),IntKind.wrap .i64 (y.2.1+1),())∧rM2 a (y.1.set y.2.1.toNat (a.getD y.2.1.toNat z),IntKind.wrap .i64 (y.2.1+1),())<rM2 a y
  else L y.1
theorem toV_ok{α:Type}{f:α→Nat}{z:α}{a:List α}{L:List α→Prop}(hp0:a.length+(a.map f).sum≤4294967296)(hL:L a):toV f z a L:=by
 refine⟨by omega,rfl,by omega,⟨by show(0:Int)≤0;omega,by show(0:Int)≤a.length;omega,by simp⟩,?_⟩
 rintro⟨out,i,⟨⟩⟩ ⟨h1,h2,h3⟩
 simp only at h1 h2 h3
 subst h3
 refine if_cond (fun hc=> ?_) (fun hc=> ?_)
 ·have hc:i<a.length:=by simpa using hc
  simp only
  rw[wrap_i64 (by omega) (by omega),set_fill a z h1 hc]
  exact⟨h1,by omega,zde (sum_getD_le f a z h1 hc) (by omega),h1,by simp;omega,by simp;omega,⟨by show(0:Int)≤i+1;omega,by show i+1≤a.length;omega,rfl⟩,by simp only[rM2];omega⟩
 ·have hc:a.length≤i:=by simpa using hc
  have e:i.toNat=a.length:=by omega
  simp only
  rw[e];simpa using hL
def eqI{α:Type}(a b:List α):Int×Unit→Prop:=fun y=>0≤y.1∧y.1≤a.length∧a.length=b.length∧(a.drop y.1.toNat=b.drop y.1.toNat↔a=b)
noncomputable def eqV{α:Type}[DecidableEq α](z:α)(a b:List α):Prop:=
 bif (a.length:Int) !=(b.length:Int) then Lb false (decide (a=b))
 else eqI a b (0,())∧∀y:Int×PUnit,eqI a b y→bif decide (y.1<(a.length:Int)) then 0≤y.1∧y.1.toNat<a.length∧0≤y.1∧y.1.toNat<b.length∧
   bif !decide (a.getD y.1.toNat z=b.getD y.1.toNat z) then Lb false (decide (a=b))
   else eqI a b (IntKind.wrap .i64 (y.1+1),())∧rM1 a (IntKind.wrap .i64 (y.1+1),())<rM1 a y
  else Lb true (decide (a=b))
theorem eqV_ok{α:Type}[DecidableEq α]{z:α}{a b:List α}(hl:a.length≤9223372036854775807):eqV z a b:=by
 unfold eqV
 refine if_cond (fun h=>Lf_f ?_) (fun h=>⟨?_,?_⟩)
 ·rintro rfl;simp at h
 ·have h:(a.length:Int)=b.length:=by simpa using h
  exact⟨by show(0:Int)≤0;omega,by show(0:Int)≤a.length;omega,by omega,by simp⟩
 rintro⟨i,⟨⟩⟩ ⟨h1,h2,h3,hR⟩
 simp only at h1 h2 h3 hR
 refine if_cond (fun hc=> ?_) (fun hc=> ?_)
 ·have hc:i<a.length:=by simpa using hc
  rw[drop_step a z h1 hc,drop_step b z h1 (by omega)] at hR
  simp only
  rw[wrap_i64 (by omega) (by omega)]
  refine⟨by omega,by omega,by omega,by omega,if_cond (fun h=>Lf_f ?_) (fun h=>⟨⟨by show(0:Int)≤i+1;omega,by show i+1≤a.length;omega,h3,?_⟩,?_⟩)⟩
  ·rw[←hR];simp at h;simp[h]
  ·show a.drop (i+1).toNat=b.drop (i+1).toNat↔a=b
   rw[←hR];simp at h;simp[h]
  ·simp only[rM1];omega
 ·have hc:a.length≤i:=by simpa using hc
  rw[drop_end a hc,drop_end b (by omega)] at hR
  exact Lf_t (hR.1 rfl)
def smallB(b:Int):Bool:=decide (97≤b∧b≤122)
def wordB(b:Int):Bool:=smallB b||decide (48≤b∧b≤57)||decide (b=95)
def wordS(s:ByteArray):Bool:=(bs s).all (byteP wordB)
def nameOk(s:ByteArray):Bool:=decide (1≤s.size∧s.size≤12)&&smallB (List.getD (bs s) 0 0).toNat&&wordS s
def valOk(v:DVal):Bool:=bif decide (v.K=1) then decide (-1000000000≤v.N∧v.N≤1000000000)&&decide (v.S=noBytes) else bif decide (v.K=2) then decide (v.N=0)&&decide (v.S.size≤20)&&wordS v.S else false
def factOk(f:DFact):Bool:=nameOk f.Kind&&decide (f.Fields.length≤5)&&f.Fields.all valOk
def Zk34:Con UU where
 α:=Int×Int×Int
 md:=[.ro,.ro,.ro]
 of:=oC oI (oC oI (o1 oI))
 ds:=fun x=>[dI x.1,dI x.2.1,dI x.2.2]
 pre:=fun _=>[]
 res:=fun(n,least,most)=>⟨[dO (decide (least≤n∧n≤most))],true,[]⟩
 law:=lC lI (lC lI (l1 lI))
def Za34:Zk34.α→Nat→Option (Ann UU):=fun(n,least,most)=>annL []
def Zu34:List (FuncId×Con UU):=[]
theorem Zo34:Holds EE (34,Zk34):=by
 refine holds_of EE_ok func34 Zk34 (by kernel_rfl) Zu34 all_nil Za34 (fun x hp hb=> ?_)
 obtain⟨n,least,most⟩:=x
 have hl_n:=bdI (n:=n) (hb _ m0)
 have hl_least:=bdI (n:=least) (hb _ m1)
 have hl_most:=bdI (n:=most) (hb _ m2)
 clear hp hb
 apply @ve _ (bif decide (n≥least) then Lb (decide (n≤most)) (decide (least≤n∧n≤most)) else Lb false (decide (least≤n∧n≤most))) (by kernel_rfl)
 refine if_cond (fun h=>Lf_b ?_) (fun h=>Lf_b ?_)<;>grind
def Zh34:HH:=⟨_,Zo34⟩
def Zk104:Con UU where
 α:=Int×Int×Int
 md:=[.ro,.ro,.ro]
 of:=oC oI (oC oI (o1 oI))
 ds:=fun x=>[dI x.1,dI x.2.1,dI x.2.2]
 pre:=fun _=>[]
 res:=fun(x,least,most)=>⟨[dO (decide (least≤x∧x≤most))],true,[]⟩
 law:=lC lI (lC lI (l1 lI))
def Za104:Zk104.α→Nat→Option (Ann UU):=fun(x,least,most)=>annL []
def Zu104:List (FuncId×Con UU):=[]
theorem Zo104:Holds EE (104,Zk104):=by
 refine holds_of EE_ok func104 Zk104 (by kernel_rfl) Zu104 all_nil Za104 (fun x hp hb=> ?_)
 obtain⟨x,least,most⟩:=x
 have hl_x:=bdI (n:=x) (hb _ m0)
 have hl_least:=bdI (n:=least) (hb _ m1)
 have hl_most:=bdI (n:=most) (hb _ m2)
 clear hp hb
 apply @ve _ (bif decide (x≥least) then Lb (decide (x≤most)) (decide (least≤x∧x≤most)) else Lb false (decide (least≤x∧x≤most))) (by kernel_rfl)
 refine if_cond (fun h=>Lf_b ?_) (fun h=>Lf_b ?_)<;>grind
def Zh104:HH:=⟨_,Zo104⟩
def Zk88:Con UU where
 α:=Int
 md:=[.ro]
 of:=o1 oY
 ds:=fun x=>[dY x]
 pre:=fun _=>[]
 res:=fun b=>⟨[dO (smallB b)],true,[]⟩
 law:=l1 lY
def Za88:Zk88.α→Nat→Option (Ann UU):=fun b=>annL []
def Zu88:List (FuncId×Con UU):=[]
theorem Zo88:Holds EE (88,Zk88):=by
 refine holds_of EE_ok func88 Zk88 (by kernel_rfl) Zu88 all_nil Za88 (fun(b:Int) hp hb=> ?_)
 skip
 clear hp hb
 apply @ve _ (bif decide (b≥(97:Int)) then Lb (decide (b≤(122:Int))) (smallB b) else Lb false (smallB b)) (by kernel_rfl)
 refine if_cond (fun h=>Lf_b ?_) (fun h=>Lf_b ?_)<;>grind [smallB]
def Zh88:HH:=⟨_,Zo88⟩
def Zk236:Con UU where
 α:=Int
 md:=[.ro]
 of:=o1 oY
 ds:=fun x=>[dY x]
 pre:=fun _=>[]
 res:=fun b=>⟨[dO (decide (48≤b∧b≤57))],true,[]⟩
 law:=l1 lY
def Za236:Zk236.α→Nat→Option (Ann UU):=fun b=>annL []
def Zu236:List (FuncId×Con UU):=[]
theorem Zo236:Holds EE (236,Zk236):=by
 refine holds_of EE_ok func236 Zk236 (by kernel_rfl) Zu236 all_nil Za236 (fun(b:Int) hp hb=> ?_)
 skip
 clear hp hb
 apply @ve _ (bif decide (b≥(48:Int)) then Lb (decide (b≤(57:Int))) (decide ((48:Int)≤b∧b≤(57:Int))) else Lb false (decide ((48:Int)≤b∧b≤(57:Int)))) (by kernel_rfl)
 refine if_cond (fun h=>Lf_b ?_) (fun h=>Lf_b ?_)<;>grind
def Zh236:HH:=⟨_,Zo236⟩
def Zk164:Con UU where
 α:=Int
 md:=[.ro]
 of:=o1 oY
 ds:=fun x=>[dY x]
 pre:=fun _=>[]
 res:=fun b=>⟨[dO (wordB b)],true,[]⟩
 law:=l1 lY
def Za164:Zk164.α→Nat→Option (Ann UU):=fun b=>annL []
def Zu164:=us [Zh88,Zh236]
theorem Zo164:Holds EE (164,Zk164):=by
 refine holds_of EE_ok func164 Zk164 (by kernel_rfl) Zu164 (us_ok _) Za164 (fun(b:Int) hp hb=> ?_)
 skip
 clear hp hb
 apply @ve _ (bif smallB b then Lb true (wordB b) else bif decide ((48:Int)≤b∧b≤(57:Int)) then Lb true (wordB b) else Lb (b==(95:Int)) (wordB b)) (by kernel_rfl)
 refine if_cond (fun h=>Lf_b ?_) (fun h=> ?_)
 ·grind [wordB]
 refine if_cond (fun h=>Lf_b ?_) (fun h=>Lf_b ?_)<;>grind [wordB]
def Zh164:HH:=⟨_,Zo164⟩
def Zk174:Con UU where
 α:=Int
 md:=[.ro]
 of:=o1 oY
 ds:=fun x=>[dY x]
 pre:=fun c=>[0≤c∧c≤255]
 res:=fun c=>⟨[dO (wordB c)],true,[]⟩
 law:=l1 lY
def Za174:Zk174.α→Nat→Option (Ann UU):=fun c=>annL []
def Zu174:=us [Zh104]
theorem Zo174:Holds EE (174,Zk174):=by
 refine holds_of EE_ok func174 Zk174 (by kernel_rfl) Zu174 (us_ok _) Za174 (fun(c:Int) hp hb=> ?_)
 have hp0:0≤c∧c≤255:=hp _ m0
 clear hp hb
 apply @ve _ (bif decide ((97:Int)≤IntKind.wrap IntKind.i64 c∧IntKind.wrap IntKind.i64 c≤(122:Int)) then Lb true (wordB c) else bif decide ((48:Int)≤IntKind.wrap IntKind.i64 c∧IntKind.wrap IntKind.i64 c≤(57:Int)) then Lb true (wordB c) else Lb (c==(95:Int)) (wordB c)) (by kernel_rfl)
 rw[wrap_i64 (by omega) (by omega)]
 refine if_cond (fun h=>Lf_b ?_) (fun h=> ?_)
 ·grind [wordB,smallB]
 refine if_cond (fun h=>Lf_b ?_) (fun h=>Lf_b ?_)<;>grind [wordB,smallB]
def Zh174:HH:=⟨_,Zo174⟩
def Zk89:Con UU where
 α:=ByteArray×Int
 md:=[.ro,.ro]
 of:=oC oS (o1 oI)
 ds:=fun x=>[dS x.1,dI x.2]
 pre:=fun _=>[]
 res:=fun(s,most)=>⟨[dO (decide (s.size≤most)&&wordS s)],true,[]⟩
 law:=lC lS (l1 lI)
def Zi89_4(s:ByteArray)(most:Int):Int×Unit→Prop:=fun(i,_)=>0≤i∧i≤s.size∧s.size≤most∧((bs s).drop i.toNat).all (byteP wordB)=wordS s
def Zm89_4(s:ByteArray)(most:Int):Int×Unit→Nat:=fun(i,_)=>s.size-i.toNat
def Za89:Zk89.α→Nat→Option (Ann UU):=fun(s,most)=>annL [(4,annOf [.slot 5 (5,1024) (.lit (.int .i64))] (fun _=>Zi89_4 s most) (Zm89_4 s most))]
def Zu89:=us [Zh164]
theorem Zo89:Holds EE (89,Zk89):=by
 refine holds_of EE_ok func89 Zk89 (by kernel_rfl) Zu89 (us_ok _) Za89 (fun x hp hb=> ?_)
 obtain⟨s,most⟩:=x
 have hl_s:=bdS (s:=s) (hb _ m0)
 have hl_most:=bdI (n:=most) (hb _ m1)
 clear hp hb
 apply @ve _ (bif decide ((↑(ByteArray.size s):Int)>most) then Lb false (decide ((↑(ByteArray.size s):Int)≤most)&&wordS s) else Zi89_4 s most ((0:Int),())∧∀(y:Int×PUnit),Zi89_4 s most y→bif decide (y.1<(↑(ByteArray.size s):Int)) then(0:Int)≤y.1∧y.1.toNat<ByteArray.size s∧bif !wordB (↑(UInt8.toNat (List.getD s.data.toList y.1.toNat (0:UInt8))):Int) then Lb false (decide ((↑(ByteArray.size s):Int)≤most)&&wordS s) else Zi89_4 s most (IntKind.wrap IntKind.i64 (y.1+(1:Int)),())∧Zm89_4 s most (IntKind.wrap IntKind.i64 (y.1+(1:Int)),())<Zm89_4 s most y else Lb true (decide ((↑(ByteArray.size s):Int)≤most)&&wordS s)) (by kernel_rfl)
 refine if_cond (fun h=>Lf_ff ?_) (fun h=> ?_)
 ·have h:=of_decide_eq_true h;rw[decide_eq_false (by omega)];rfl
 have h0:=of_decide_eq_false h
 refine⟨⟨by omega,by omega,by omega,rfl⟩,?_⟩
 rintro⟨i,⟨⟩⟩ ⟨h1,h2,h3,hR⟩
 have hl:=bs_len s
 simp only[bs_eq]
 refine if_cond (fun hc=> ?_) (fun hc=> ?_)
 ·have hc:=of_decide_eq_true hc
  rw[all_step _ _ 0 h1 (by omega)] at hR
  rw[wrap_i64 (by omega) (by omega)]
  refine⟨by omega,by omega,if_cond (fun h=>Lf_ff ?_) (fun h=>⟨⟨by omega,by omega,by omega,?_⟩,?_⟩)⟩
  ·rw[←hR];simp only[byteP];simp at h;simp[h]
  ·rw[←hR];simp only[byteP];simp at h;simp[h]
  ·simp only[Zm89_4];omega
 ·have hc:=of_decide_eq_false hc
  rw[drop_end _ (by omega)] at hR
  exact Lf_tt (by rw[←hR,decide_eq_true h3];rfl)
def Zh89:HH:=⟨_,Zo89⟩
def Zk33:Con UU where
 α:=ByteArray
 md:=[.ro]
 of:=o1 oS
 ds:=fun x=>[dS x]
 pre:=fun _=>[]
 res:=fun s=>⟨[dO (nameOk s)],true,[]⟩
 law:=l1 lS
def Za33:Zk33.α→Nat→Option (Ann UU):=fun s=>annL []
def Zu33:=us [Zh88,Zh89]
theorem Zo33:Holds EE (33,Zk33):=by
 refine holds_of EE_ok func33 Zk33 (by kernel_rfl) Zu33 (us_ok _) Za33 (fun(s:ByteArray) hp hb=> ?_)
 have hl_s:=bdS (s:=s) (hb _ m0)
 clear hp hb
 apply @ve _ (bif decide ((↑(ByteArray.size s):Int)>(0:Int)) then(0:Int)≤(0:Int)∧Int.toNat (0:Int)<ByteArray.size s∧bif smallB (↑(UInt8.toNat (List.getD s.data.toList (Int.toNat (0:Int)) (0:UInt8))):Int) then Lb (decide ((↑(ByteArray.size s):Int)≤(12:Int))&&wordS s) (nameOk s) else Lb false (nameOk s) else Lb false (nameOk s)) (by kernel_rfl)
 have hl:=bs_len s
 simp only[bs_eq]
 refine if_cond (fun h=> ?_) (fun h=>Lf_ff ?_)
 ·have h:=of_decide_eq_true h
  refine⟨by omega,by omega,if_cond (fun h'=>Lf_b ?_) (fun h'=>Lf_ff ?_)⟩
  ·have h':smallB ((List.getD (bs s) 0 0).toNat:Int)=true:=h'
   simp only[nameOk,h']
   have e:decide (1≤s.size∧s.size≤12)=decide ((s.size:Int)≤12):=by rw[decide_eq_decide];omega
   rw[e];simp
  ·have h':smallB ((List.getD (bs s) 0 0).toNat:Int)=false:=h'
   simp only[nameOk,h'];grind
 ·have h:=of_decide_eq_false h
  simp only[nameOk];rw[decide_eq_false (by omega)];rfl
def Zh33:HH:=⟨_,Zo33⟩
def Zk103:Con UU where
 α:=ByteArray
 md:=[.ro]
 of:=o1 oS
 ds:=fun x=>[dS x]
 pre:=fun _=>[]
 res:=fun s=>⟨[dO (nameOk s)],true,[]⟩
 law:=l1 lS
def Zi103_2(s:ByteArray):Int×Unit→Prop:=fun(i,_)=>0≤i∧i≤s.size∧((bs s).drop i.toNat).all (byteP wordB)=wordS s∧(0<i→smallB (List.getD (bs s) 0 0).toNat=true)
def Zm103_2(s:ByteArray):Int×Unit→Nat:=fun(i,_)=>s.size-i.toNat
def Za103:Zk103.α→Nat→Option (Ann UU):=fun s=>annL [(2,annOf [.slot 3 (3,1024) (.lit (.int .i64))] (fun _=>Zi103_2 s) (Zm103_2 s))]
def Zu103:=us [Zh174,Zh104]
theorem Zo103:Holds EE (103,Zk103):=by
 refine holds_of EE_ok func103 Zk103 (by kernel_rfl) Zu103 (us_ok _) Za103 (fun(s:ByteArray) hp hb=> ?_)
 have hl_s:=bdS (s:=s) (hb _ m0)
 clear hp hb
 apply @ve _ (Zi103_2 s ((0:Int),())∧∀(y:Int×PUnit),let x0:Int:=(↑(UInt8.toNat (List.getD s.data.toList y.1.toNat (0:UInt8))):Int);Zi103_2 s y→bif decide (y.1<(↑(ByteArray.size s):Int)) then(0:Int)≤y.1∧y.1.toNat<ByteArray.size s∧((0:Int)≤x0∧x0≤(255:Int))∧bif !wordB x0 then Lb false (nameOk s) else bif y.1==(0:Int) then(0:Int)≤y.1∧y.1.toNat<ByteArray.size s∧bif !decide ((97:Int)≤IntKind.wrap IntKind.i64 x0∧IntKind.wrap IntKind.i64 x0≤(122:Int)) then Lb false (nameOk s) else Zi103_2 s (IntKind.wrap IntKind.i64 (y.1+(1:Int)),())∧Zm103_2 s (IntKind.wrap IntKind.i64 (y.1+(1:Int)),())<Zm103_2 s y else Zi103_2 s (IntKind.wrap IntKind.i64 (y.1+(1:Int)),())∧Zm103_2 s (IntKind.wrap IntKind.i64 (y.1+(1:Int)),())<Zm103_2 s y else Lb (decide ((1:Int)≤(↑(ByteArray.size s):Int)∧(↑(ByteArray.size s):Int)≤(12:Int))) (nameOk s)) (by kernel_rfl)
 dsimp only
 refine⟨⟨by omega,by omega,rfl,by omega⟩,?_⟩
 rintro⟨i,⟨⟩⟩ ⟨h1,h2,hR,hS⟩
 have hl:=bs_len s
 simp only[bs_eq,u8_i64]
 refine if_cond (fun hc=> ?_) (fun hc=> ?_)
 ·have hc:=of_decide_eq_true hc
  have hb:=(List.getD (bs s) i.toNat 0).toNat_lt
  rw[all_step _ _ 0 h1 (by omega)] at hR
  rw[wrap_i64 (by omega) (by omega)]
  have hN:wordS s=false→nameOk s=false:=fun h=>by simp[nameOk,h]
  refine⟨by omega,by omega,⟨by omega,by omega⟩,if_cond (fun h=>Lf_ff (hN ?_)) (fun h=>if_cond (fun h'=>⟨by omega,by omega,if_cond (fun h''=>Lf_ff ?_) (fun h''=>⟨⟨by omega,by omega,?_,fun _=> ?_⟩,?_⟩)⟩) (fun h'=>⟨⟨by omega,by omega,?_,fun _=>hS ?_⟩,?_⟩))⟩
  ·rw[←hR];simp only[byteP];simp at h;simp[h]
  ·have h':i=0:=by simpa using h'
   subst h'
   have h'':smallB ((List.getD (bs s) 0 0).toNat:Int)=false:=by simp only[smallB];grind
   simp only[nameOk,h''];grind
  ·rw[←hR];simp only[byteP];simp at h;simp[h]
  ·have h':i=0:=by simpa using h'
   subst h'
   simpa[smallB] using h''
  ·simp only[Zm103_2];omega
  ·rw[←hR];simp only[byteP];simp at h;simp[h]
  ·have h':¬i=0:=by simpa using h'
   omega
  ·simp only[Zm103_2];omega
 ·have hc:=of_decide_eq_false hc
  rw[drop_end _ (by omega)] at hR
  refine Lf_b ?_
  simp only[nameOk,←hR]
  by_cases hz:0<i
  ·rw[hS hz];simp only[zes];grind
  ·rw[decide_eq_false (by omega),decide_eq_false (by omega)];rfl
def Zh103:HH:=⟨_,Zo103⟩
def Zk289:Con UU where
 α:=ByteArray
 md:=[.ro]
 of:=o1 oS
 ds:=fun x=>[dS x]
 pre:=fun _=>[]
 res:=fun s=>⟨[dO (decide (s.size≤20)&&wordS s)],true,[]⟩
 law:=l1 lS
def Zi289_2(s:ByteArray):Int×Unit→Prop:=fun(i,_)=>0≤i∧i≤s.size∧((bs s).drop i.toNat).all (byteP wordB)=wordS s
def Zm289_2(s:ByteArray):Int×Unit→Nat:=fun(i,_)=>s.size-i.toNat
def Za289:Zk289.α→Nat→Option (Ann UU):=fun s=>annL [(2,annOf [.slot 3 (3,1024) (.lit (.int .i64))] (fun _=>Zi289_2 s) (Zm289_2 s))]
def Zu289:=us [Zh174]
theorem Zo289:Holds EE (289,Zk289):=by
 refine holds_of EE_ok func289 Zk289 (by kernel_rfl) Zu289 (us_ok _) Za289 (fun(s:ByteArray) hp hb=> ?_)
 have hl_s:=bdS (s:=s) (hb _ m0)
 clear hp hb
 apply @ve _ (Zi289_2 s ((0:Int),())∧∀(y:Int×PUnit),let x0:Int:=(↑(UInt8.toNat (List.getD s.data.toList y.1.toNat (0:UInt8))):Int);Zi289_2 s y→bif decide (y.1<(↑(ByteArray.size s):Int)) then(0:Int)≤y.1∧y.1.toNat<ByteArray.size s∧((0:Int)≤x0∧x0≤(255:Int))∧bif !wordB x0 then Lb false (decide (ByteArray.size s≤(20:Nat))&&wordS s) else Zi289_2 s (IntKind.wrap IntKind.i64 (y.1+(1:Int)),())∧Zm289_2 s (IntKind.wrap IntKind.i64 (y.1+(1:Int)),())<Zm289_2 s y else Lb (decide ((↑(ByteArray.size s):Int)≤(20:Int))) (decide (ByteArray.size s≤(20:Nat))&&wordS s)) (by kernel_rfl)
 dsimp only
 refine⟨⟨by omega,by omega,rfl⟩,?_⟩
 rintro⟨i,⟨⟩⟩ ⟨h1,h2,hR⟩
 have hl:=bs_len s
 simp only[bs_eq]
 refine if_cond (fun hc=> ?_) (fun hc=> ?_)
 ·have hc:=of_decide_eq_true hc
  have hb:=(List.getD (bs s) i.toNat 0).toNat_lt
  rw[all_step _ _ 0 h1 (by omega)] at hR
  rw[wrap_i64 (by omega) (by omega)]
  refine⟨by omega,by omega,⟨by omega,by omega⟩,if_cond (fun h=>Lf_ff ?_) (fun h=>⟨⟨by omega,by omega,?_⟩,?_⟩)⟩
  ·rw[←hR];simp only[byteP];simp at h;simp[h]
  ·rw[←hR];simp only[byteP];simp at h;simp[h]
  ·simp only[Zm289_2];omega
 ·have hc:=of_decide_eq_false hc
  rw[drop_end _ (by omega)] at hR
  refine Lf_b ?_
  rw[←hR];simp;omega
def Zh289:HH:=⟨_,Zo289⟩
def Zk107:Con UU where
 α:=DVal
 md:=[.ro]
 of:=o1 (oA .eVal)
 ds:=fun x=>[dA .eVal x]
 pre:=fun _=>[]
 res:=fun v=>⟨[dO (valOk v)],true,[]⟩
 law:=l1 (lA .eVal)
def Za107:Zk107.α→Nat→Option (Ann UU):=fun v=>annL []
def Zu107:=us [Zh34,Zh89]
theorem Zo107:Holds EE (107,Zk107):=by
 refine holds_of EE_ok func107 Zk107 (by kernel_rfl) Zu107 (us_ok _) Za107 (fun(v:DVal) hp hb=> ?_)
 have hl_v_S:=bd_eVal (x:=v) (hb _ m0)
 clear hp hb
 apply @ve _ (bif v.K==(1:Int) then bif decide ((-1000000000:Int)≤v.N∧v.N≤(1000000000:Int)) then Lb (ByteArray.toList v.S==ByteArray.toList {data:= #[]:ByteArray}) (valOk v) else Lb false (valOk v) else bif v.K==(2:Int) then bif v.N==(0:Int) then Lb (decide ((↑(ByteArray.size v.S):Int)≤(20:Int))&&wordS v.S) (valOk v) else Lb false (valOk v) else Lb false (valOk v)) (by kernel_rfl)
 have e:(ByteArray.toList (DVal.S v)==ByteArray.toList {data:= #[]})=decide (v.S=noBytes):=toList_beq _ _
 simp only[e,valOk]
 repeat' (refine if_cond (fun h=> ?_) (fun h=> ?_))
 all_goals (refine Lf_b ?_;grind)
def Zh107:HH:=⟨_,Zo107⟩
def Zk254:Con UU where
 α:=DVal
 md:=[.ro]
 of:=o1 (oA .eVal)
 ds:=fun x=>[dA .eVal x]
 pre:=fun _=>[]
 res:=fun v=>⟨[dO (valOk v)],true,[]⟩
 law:=l1 (lA .eVal)
def Za254:Zk254.α→Nat→Option (Ann UU):=fun v=>annL []
def Zu254:=us [Zh104,Zh289]
theorem Zo254:Holds EE (254,Zk254):=by
 refine holds_of EE_ok func254 Zk254 (by kernel_rfl) Zu254 (us_ok _) Za254 (fun(v:DVal) hp hb=> ?_)
 have hl_v_S:=bd_eVal (x:=v) (hb _ m0)
 clear hp hb
 apply @ve _ (bif v.K==(1:Int) then bif decide ((-1000000000:Int)≤v.N∧v.N≤(1000000000:Int)) then Lb (ByteArray.toList v.S==ByteArray.toList {data:= #[]:ByteArray}) (valOk v) else Lb false (valOk v) else bif v.K==(2:Int) then bif decide (ByteArray.size v.S≤(20:Nat))&&wordS v.S then Lb (v.N==(0:Int)) (valOk v) else Lb false (valOk v) else Lb false (valOk v)) (by kernel_rfl)
 have e:(ByteArray.toList (DVal.S v)==ByteArray.toList {data:= #[]})=decide (v.S=noBytes):=toList_beq _ _
 simp only[e,valOk]
 repeat' (refine if_cond (fun h=> ?_) (fun h=> ?_))
 all_goals (refine Lf_b ?_;grind)
def Zh254:HH:=⟨_,Zo254⟩
def Zk244:Con UU where
 α:=(List DVal)
 md:=[.ro]
 of:=o1 (oL .eVal)
 ds:=fun x=>[dL .eVal x]
 pre:=fun _=>[]
 res:=fun l=>⟨[dO (decide (l.length≤5)&&l.all valOk)],true,[]⟩
 law:=l1 (lL .eVal)
def Zi244_2(l:(List DVal)):Int×Unit→Prop:=fun(i,_)=>0≤i∧i≤l.length∧(l.drop i.toNat).all valOk=l.all valOk
def Zm244_2(l:(List DVal)):Int×Unit→Nat:=fun(i,_)=>l.length-i.toNat
def Za244:Zk244.α→Nat→Option (Ann UU):=fun l=>annL [(2,annOf [.slot 3 (3,1024) (.lit (.int .i64))] (fun _=>Zi244_2 l) (Zm244_2 l))]
def Zu244:=us [Zh254]
theorem Zo244:Holds EE (244,Zk244):=by
 refine holds_of EE_ok func244 Zk244 (by kernel_rfl) Zu244 (us_ok _) Za244 (fun(l:(List DVal)) hp hb=> ?_)
 have hl_l:l.length≤9223372036854775807:=bdL (hb _ m0)
 clear hp hb
 apply @ve _ (let x0:Int:=(l.length:Int);Zi244_2 l ((0:Int),())∧∀(y:Int×PUnit),Zi244_2 l y→bif decide (y.1<x0) then(0:Int)≤y.1∧y.1.toNat<l.length∧bif !valOk (List.getD l y.1.toNat zVal) then Lb false (decide (l.length≤(5:Nat))&&List.all l valOk) else Zi244_2 l (IntKind.wrap IntKind.i64 (y.1+(1:Int)),())∧Zm244_2 l (IntKind.wrap IntKind.i64 (y.1+(1:Int)),())<Zm244_2 l y else Lb (decide (x0≤(5:Int))) (decide (l.length≤(5:Nat))&&List.all l valOk)) (by kernel_rfl)
 dsimp only
 refine⟨⟨by omega,by omega,rfl⟩,?_⟩
 rintro⟨i,⟨⟩⟩ ⟨h1,h2,hR⟩
 simp only
 refine if_cond (fun hc=> ?_) (fun hc=> ?_)
 ·have hc:=of_decide_eq_true hc
  rw[all_step _ _ zVal h1 (by omega)] at hR
  rw[wrap_i64 (by omega) (by omega)]
  refine⟨by omega,by omega,if_cond (fun h=>Lf_ff ?_) (fun h=>⟨⟨by omega,by omega,?_⟩,?_⟩)⟩
  ·rw[←hR];simp at h;simp[h]
  ·rw[←hR];simp at h;simp[h]
  ·simp only[Zm244_2];omega
 ·have hc:=of_decide_eq_false hc
  rw[drop_end _ (by omega)] at hR
  refine Lf_b ?_
  rw[←hR];simp;omega
def Zh244:HH:=⟨_,Zo244⟩
def Zk175:Con UU where
 α:=DFact
 md:=[.ro]
 of:=o1 (oA .eFact)
 ds:=fun x=>[dA .eFact x]
 pre:=fun _=>[]
 res:=fun f=>⟨[dO (factOk f)],true,[]⟩
 law:=l1 (lA .eFact)
def Za175:Zk175.α→Nat→Option (Ann UU):=fun f=>annL []
def Zu175:=us [Zh103,Zh244]
theorem Zo175:Holds EE (175,Zk175):=by
 refine holds_of EE_ok func175 Zk175 (by kernel_rfl) Zu175 (us_ok _) Za175 (fun(f:DFact) hp hb=> ?_)
 have hz0:=bd_eFact (x:=f) (hb _ m0)
 have hl_f_Kind:=hz0.1
 have hl_f_Fields:=hz0.2
 clear hp hb
 apply @ve _ (bif nameOk f.Kind then Lb (decide (f.Fields.length≤(5:Nat))&&List.all f.Fields valOk) (factOk f) else Lb false (factOk f)) (by kernel_rfl)
 simp only[factOk]
 refine if_cond (fun h=>Lf_b ?_) (fun h=>Lf_b ?_)<;>grind
def Zh175:HH:=⟨_,Zo175⟩
def Zk42:Con UU where
 α:=DFact
 md:=[.ro]
 of:=o1 (oA .eFact)
 ds:=fun x=>[dA .eFact x]
 pre:=fun _=>[]
 res:=fun f=>⟨[dO (factOk f)],true,[]⟩
 law:=l1 (lA .eFact)
def Zi42_4(f:DFact):Int×Unit→Prop:=fun(i,_)=>0≤i∧i≤f.Fields.length∧f.Fields.length≤5∧nameOk f.Kind=true∧(f.Fields.drop i.toNat).all valOk=f.Fields.all valOk
def Zm42_4(f:DFact):Int×Unit→Nat:=fun(i,_)=>f.Fields.length-i.toNat
def Za42:Zk42.α→Nat→Option (Ann UU):=fun f=>annL [(4,annOf [.slot 18 (18,1024) (.lit (.int .i64))] (fun _=>Zi42_4 f) (Zm42_4 f))]
def Zu42:=us [Zh33,Zh107]
theorem Zo42:Holds EE (42,Zk42):=by
 refine holds_of EE_ok func42 Zk42 (by kernel_rfl) Zu42 (us_ok _) Za42 (fun(f:DFact) hp hb=> ?_)
 have hz0:=bd_eFact (x:=f) (hb _ m0)
 have hl_f_Kind:=hz0.1
 have hl_f_Fields:=hz0.2
 clear hp hb
 apply @ve _ (let x0:Int:=(f.Fields.length:Int);bif !nameOk f.Kind then Lb false (factOk f) else bif decide (x0>(5:Int)) then Lb false (factOk f) else Zi42_4 f ((0:Int),())∧∀(y:Int×PUnit),Zi42_4 f y→bif decide (y.1<x0) then(0:Int)≤y.1∧y.1.toNat<f.Fields.length∧bif !valOk (List.getD f.Fields y.1.toNat zVal) then Lb false (factOk f) else Zi42_4 f (IntKind.wrap IntKind.i64 (y.1+(1:Int)),())∧Zm42_4 f (IntKind.wrap IntKind.i64 (y.1+(1:Int)),())<Zm42_4 f y else Lb true (factOk f)) (by kernel_rfl)
 dsimp only
 refine if_cond (fun h=>Lf_b ?_) (fun h=>if_cond (fun h'=>Lf_b ?_) (fun h'=>⟨⟨by omega,by omega,by simp at h';omega,by simpa using h,rfl⟩,?_⟩))
 ·simp only[factOk];grind
 ·simp only[factOk];grind
 rintro⟨i,⟨⟩⟩ ⟨h1,h2,h3,h4,hR⟩
 simp only
 refine if_cond (fun hc=> ?_) (fun hc=> ?_)
 ·have hc:=of_decide_eq_true hc
  rw[all_step _ _ zVal h1 (by omega)] at hR
  rw[wrap_i64 (by omega) (by omega)]
  refine⟨by omega,by omega,if_cond (fun h=>Lf_ff ?_) (fun h=>⟨⟨by omega,by omega,by omega,h4,?_⟩,?_⟩)⟩
  ·simp only[factOk];rw[←hR];simp at h;simp[h]
  ·rw[←hR];simp at h;simp[h]
  ·simp only[Zm42_4];omega
 ·have hc:=of_decide_eq_false hc
  rw[drop_end _ (by omega)] at hR
  refine Lf_b ?_
  simp only[factOk,←hR,h4];simp;omega
def Zh42:HH:=⟨_,Zo42⟩
def Zk146:Con UU where
 α:=Int
 md:=[.ro]
 of:=o1 oI
 ds:=fun x=>[dI x]
 pre:=fun k=>[k≤4611686018427387903]
 res:=fun k=>⟨[dS (markText k)],true,[]⟩
 law:=l1 lI
def Zi146_4(k:Int):Int×ByteArray×Unit→Prop:=fun(j,out,_)=>0≤j∧j≤k∧(∃l d,out=⟨l.toArray⟩∧j.toNat≤d∧mtl d j.toNat l=mtl k.toNat k.toNat []∧l.length≤k-j)
def Zm146_4(k:Int):Int×ByteArray×Unit→Nat:=fun(j,out,_)=>j.toNat
def Za146:Zk146.α→Nat→Option (Ann UU):=fun k=>annL [(4,annOf [.slot 0 (0,1024) (.lit (.int .i64)),.slot 3 (3,1024) (.lit .str)] (fun _=>Zi146_4 k) (Zm146_4 k))]
def Zu146:List (FuncId×Con UU):=[]
theorem Zo146:Holds EE (146,Zk146):=by
 refine holds_of EE_ok func146 Zk146 (by kernel_rfl) Zu146 all_nil Za146 (fun(k:Int) hp hb=> ?_)
 have hl_k:=bdI (n:=k) (hb _ m0)
 have hp0:k≤4611686018427387903:=hp _ m0
 clear hp hb
 apply @ve _ (bif decide (k≤(0:Int)) then Lf [VS ({data:= #[(109:UInt8),(48:UInt8)]:ByteArray})] [VS (markText k)] else Zi146_4 k (k,{data:= #[]:ByteArray},())∧∀(y:Int×ByteArray×PUnit),let x0:Nat:=ByteArray.size y.2.1;let x1:ByteArray:=strOfNums (List.map (fun(x:Cd.T Cd.byte)=>x) [IntKind.wrap IntKind.u8 (IntKind.wrap IntKind.i64 ((48:Int)+Int.tmod y.1 (10:Int)))]);Zi146_4 k y→bif decide (y.1>(0:Int)) then(10:Int)≠(0:Int)∧ByteArray.size x1+x0≤(4611686018427387904:Nat)∧(10:Int)≠(0:Int)∧Zi146_4 k (IntKind.wrap IntKind.i64 (Int.tdiv y.1 (10:Int)),x1++y.2.1,())∧Zm146_4 k (IntKind.wrap IntKind.i64 (Int.tdiv y.1 (10:Int)),x1++y.2.1,())<Zm146_4 k y else ByteArray.size {data:= #[(109:UInt8)]:ByteArray}+x0≤(4611686018427387904:Nat)∧Lf [VS ({data:= #[(109:UInt8)]:ByteArray}++y.2.1)] [VS (markText k)]) (by kernel_rfl)
 dsimp only
 refine if_cond (fun h=>Lf_s ?_) (fun h=> ?_)
 ·have h:=of_decide_eq_true h;simp only[markText];rw[if_pos h]
 have h0:=of_decide_eq_false h
 refine⟨⟨by omega,by omega,[],k.toNat,rfl,zca _,rfl,by simp⟩,?_⟩
 rintro⟨j,out,⟨⟩⟩ ⟨h1,h2,l,d,rfl,hd,hm,hl⟩
 simp only
 have hz:∀l:List UInt8,(ByteArray.mk l.toArray).size=l.length:=fun l=>by simp[ByteArray.size]
 refine if_cond (fun h=> ?_) (fun h=> ?_)
 ·have h:=of_decide_eq_true h
  have ht:Int.tmod j 10=j%10:=zbp h1
  have hq:Int.tdiv j 10=j/10:=Int.tdiv_eq_ediv_of_nonneg h1
  have hu:IntKind.wrap .u8 (48+j%10)=48+j%10:=by simp only[IntKind.wrap];simp[IntKind.bits,IntKind.signed];omega
  rw[ht,hq,wrap_i64 (by omega) (by omega),wrap_i64 (by omega) (by omega),hu]
  have hs:∀l:List UInt8,strOfNums (List.map (fun(x:Int)=>x) [48+j%10])++(⟨l.toArray⟩:ByteArray)=⟨((UInt8.ofNat (48+j.toNat%10))::l).toArray⟩:=fun l=>by
   have e:(48+j%10).toNat=48+j.toNat%10:=by omega
   simp only[strOfNums,zbt,List.map_nil,e]
   apply ByteArray.ext
   simp
  have hs1:(strOfNums (List.map (fun(x:Int)=>x) [48+j%10])).size=1:=rfl
  refine⟨by omega,by erw[hs1];rw[hz];omega,by omega,⟨by omega,by omega,_,d-1,hs l,by omega,?_,by simp only[zbq];omega⟩,by simp only[Zm146_4];omega⟩
  rw[←hm]
  obtain⟨d,rfl⟩:∃e,d=e+1:=⟨d-1,by omega⟩
  have e:(j/10).toNat=j.toNat/10:=by omega
  rw[e]
  simp only[Nat.add_sub_cancel,mtl]
  rw[if_neg (by omega)]
 ·have h:=of_decide_eq_false h
  have hj:j.toNat=0:=by omega
  rw[hj,mtl_zero] at hm
  refine⟨by rw[hz];simp[ByteArray.size];omega,Lf_s ?_⟩
  simp only[markText]
  rw[if_neg h0,←hm]
  apply ByteArray.ext
  simp
def Zh146:HH:=⟨_,Zo146⟩
def Zk181:Con UU where
 α:=(List Int)×Int
 md:=[.ro,.ro]
 of:=oC (oL .int) (o1 oI)
 ds:=fun x=>[dL .int x.1,dI x.2]
 pre:=fun(a,left)=>[0≤left]
 res:=fun(a,left)=>⟨[dI (szr left (sizeIntS a))],true,[]⟩
 law:=lC (lL .int) (l1 lI)
def Za181:Zk181.α→Nat→Option (Ann UU):=fun(a,left)=>annL []
def Zu181:List (FuncId×Con UU):=[]
theorem Zo181:Holds EE (181,Zk181):=by
 refine holds_of EE_ok func181 Zk181 (by kernel_rfl) Zu181 all_nil Za181 (fun x hp hb=> ?_)
 obtain⟨a,left⟩:=x
 have hl_a:a.length≤9223372036854775807:=bdL (hb _ m0)
 have hl_left:=bdI (n:=left) (hb _ m1)
 have hp0:0≤left:=hp _ m0
 clear hp hb
 apply @ve _ (let x0:Int:=IntKind.wrap IntKind.i64 (left-(a.length:Int));bif decide (x0<(0:Int)) then Li (-1:Int) (szr left (sizeIntS a)) else Li x0 (szr left (sizeIntS a))) (by kernel_rfl)
 dsimp only
 rw[wrap_i64 (by omega) (by omega)]
 refine if_cond (fun h=>Lf_i (szr_bad' ?_)) (fun h=> ?_)
 ·have h:=of_decide_eq_true h;simp only[sizeIntS];omega
 have h:=of_decide_eq_false h
 exact Lf_i (by rw[←szr_ok' (by simp only[sizeIntS];omega)];simp only[sizeIntS])
def Zh181:HH:=⟨_,Zo181⟩
def Zk196:Con UU where
 α:=(List Int)
 md:=[.ro]
 of:=o1 (oL .int)
 ds:=fun x=>[dL .int x]
 pre:=fun a=>[sizeIntS a≤4294967296]
 res:=fun a=>⟨[dL .int a],true,[]⟩
 law:=l1 (lL .int)
def Zi196_3(a:(List Int)):List Int×Int×Unit→Prop:=fun(out,i,_)=>0≤i∧i≤a.length∧out=a.take i.toNat++List.replicate (a.length-i.toNat) (0:Int)
def Zm196_3(a:(List Int)):List Int×Int×Unit→Nat:=fun(out,i,_)=>a.length-i.toNat
def Za196:Zk196.α→Nat→Option (Ann UU):=fun a=>annL [(3,annOf [.slot 3 (3,1024) (.own .int true),.slot 4 (4,1024) (.lit (.int .i64))] (fun _=>Zi196_3 a) (Zm196_3 a))]
def Zu196:List (FuncId×Con UU):=[]
theorem Zo196:Holds EE (196,Zk196):=by
 refine holds_of EE_ok func196 Zk196 (by kernel_rfl) Zu196 all_nil Za196 (fun(a:(List Int)) hp hb=> ?_)
 have hl_a:a.length≤9223372036854775807:=bdL (hb _ m0)
 have hp0:sizeIntS a≤4294967296:=hp _ m0
 clear hp hb
 apply @ve _ (let x0:Int:=(a.length:Int);(0:Int)≤x0∧x0=x0∧x0≤(4294967296:Int)∧Zi196_3 a (List.replicate x0.toNat (0:Int),(0:Int),())∧∀(y:List Int×Int×PUnit),let x1:Nat:=y.2.1.toNat;Zi196_3 a y→bif decide (y.2.1<x0) then(0:Int)≤y.2.1∧x1<a.length∧(0:Int)≤y.2.1∧x1<y.1.length∧x1<y.1.length∧Zi196_3 a (List.set y.1 x1 (List.getD a x1 (0:Int)),IntKind.wrap IntKind.i64 (y.2.1+(1:Int)),())∧Zm196_3 a (List.set y.1 x1 (List.getD a x1 (0:Int)),IntKind.wrap IntKind.i64 (y.2.1+(1:Int)),())<Zm196_3 a y else Lf [VL .int y.1] [VL .int a]) (by kernel_rfl)
 dsimp only
 have hlen:a.length≤4294967296:=by simp only[sizeIntS] at hp0;omega
 refine⟨by omega,rfl,by omega,?_,?_⟩
 ·simp[Zi196_3]
 rintro⟨out,i,⟨⟩⟩ ⟨h1,h2,rfl⟩
 simp only at*
 refine if_cond (fun hc=> ?_) (fun hc=> ?_)
 ·have hc:i<a.length:=by simpa using hc
  rw[wrap_i64 (by omega) (by omega),set_fill a (0:Int) h1 hc]
  exact⟨h1,by omega,h1,by simp;omega,by simp;omega,⟨by omega,by omega,rfl⟩,by simp only[Zm196_3];omega⟩
 ·have hc:a.length≤i:=by simpa using hc
  have e:i.toNat=a.length:=by omega
  rw[e];simp;exact Lf_rfl _
def Zh196:HH:=⟨_,Zo196⟩
def Zk60:Con UU where
 α:=(List Int)×(List Int)
 md:=[.ro,.ro]
 of:=oC (oL .int) (o1 (oL .int))
 ds:=fun x=>[dL .int x.1,dL .int x.2]
 pre:=fun _=>[]
 res:=fun(a,b)=>⟨[dO (decide (a=b))],true,[]⟩
 law:=lC (lL .int) (l1 (lL .int))
def Zi60_4(a:(List Int))(b:(List Int)):Int×Unit→Prop:=fun(i,_)=>0≤i∧i≤a.length∧a.length=b.length∧(a.drop i.toNat=b.drop i.toNat↔a=b)
def Zm60_4(a:(List Int))(b:(List Int)):Int×Unit→Nat:=fun(i,_)=>a.length-i.toNat
def Za60:Zk60.α→Nat→Option (Ann UU):=fun(a,b)=>annL [(4,annOf [.slot 5 (5,1024) (.lit (.int .i64))] (fun _=>Zi60_4 a b) (Zm60_4 a b))]
def Zu60:List (FuncId×Con UU):=[]
theorem Zo60:Holds EE (60,Zk60):=by
 refine holds_of EE_ok func60 Zk60 (by kernel_rfl) Zu60 all_nil Za60 (fun x hp hb=> ?_)
 obtain⟨a,b⟩:=x
 have hl_a:a.length≤9223372036854775807:=bdL (hb _ m0)
 have hl_b:b.length≤9223372036854775807:=bdL (hb _ m1)
 clear hp hb
 apply @ve _ (bif (a.length:Int) !=(b.length:Int) then Lb false (decide (a=b)) else Zi60_4 a b ((0:Int),())∧∀(y:Int×PUnit),Zi60_4 a b y→bif decide (y.1<(a.length:Int)) then(0:Int)≤y.1∧y.1.toNat<a.length∧(0:Int)≤y.1∧y.1.toNat<b.length∧bif List.getD a y.1.toNat (0:Int) !=List.getD b y.1.toNat (0:Int) then Lb false (decide (a=b)) else Zi60_4 a b (IntKind.wrap IntKind.i64 (y.1+(1:Int)),())∧Zm60_4 a b (IntKind.wrap IntKind.i64 (y.1+(1:Int)),())<Zm60_4 a b y else Lb true (decide (a=b))) (by kernel_rfl)
 refine if_cond (fun h=>Lf_f ?_) (fun h=>⟨?_,?_⟩)
 ·rintro rfl;simp at h
 ·simp[Zi60_4] at*;omega
 rintro⟨i,⟨⟩⟩ ⟨h1,h2,h3,hR⟩
 simp only at*
 refine if_cond (fun hc=> ?_) (fun hc=> ?_)
 ·have hc:i<a.length:=by simpa using hc
  rw[drop_step a (0:Int) h1 hc,drop_step b (0:Int) h1 (by omega)] at hR
  rw[wrap_i64 (by omega) (by omega)]
  refine⟨by omega,by omega,by omega,by omega,if_cond (fun h=>Lf_f ?_) (fun h=>⟨⟨by omega,by omega,h3,?_⟩,?_⟩)⟩
  ·rw[←hR];simp at h;simp[h]
  ·rw[←hR];simp at h;simp[h]
  ·simp only[Zm60_4];omega
 ·have hc:a.length≤i:=by simpa using hc
  rw[drop_end a hc,drop_end b (by omega)] at hR
  exact Lf_t (hR.1 rfl)
def Zh60:HH:=⟨_,Zo60⟩
def Zk74:Con UU where
 α:=(List Int)×Int
 md:=[.wr,.ro]
 of:=oC (oL .int) (o1 oI)
 ds:=fun x=>[dL .int x.1,dI x.2]
 pre:=fun(a,k)=>[0≤k,k+cntIntS a≤4611686018427387904]
 res:=fun(a,k)=>⟨[dI (k+cntIntS a)],true,[dL .int (markIntS a k)]⟩
 law:=lC (lL .int) (l1 lI)
def Zi74_2(a:(List Int))(k:Int):List Int×Int×Int×Unit→Prop:=fun(row,kk,i,_)=>0≤i∧i≤a.length∧row=(mkS (fun _ k=>k) (fun _=>1) a k).take i.toNat++a.drop i.toNat∧kk=k+ctS (fun _=>1) (a.take i.toNat)
def Zm74_2(a:(List Int))(k:Int):List Int×Int×Int×Unit→Nat:=fun(row,kk,i,_)=>a.length-i.toNat
def Za74:Zk74.α→Nat→Option (Ann UU):=fun(a,k)=>annL [(2,annOf [.slot 0 (2000000,0) (.own .int true),.slot 1 (1,1024) (.lit (.int .i64)),.slot 5 (5,1024) (.lit (.int .i64))] (fun _=>Zi74_2 a k) (Zm74_2 a k))]
def Zu74:List (FuncId×Con UU):=[]
theorem Zo74:Holds EE (74,Zk74):=by
 refine holds_of EE_ok func74 Zk74 (by kernel_rfl) Zu74 all_nil Za74 (fun x hp hb=> ?_)
 obtain⟨a,k⟩:=x
 have hl_a:a.length≤9223372036854775807:=bdL (hb _ m0)
 have hl_k:=bdI (n:=k) (hb _ m1)
 have hp0:0≤k:=hp _ m0
 have hp1:k+cntIntS a≤4611686018427387904:=hp _ m1
 clear hp hb
 apply @ve _ (Zi74_2 a k (a,k,(0:Int),())∧∀(y:List Int×Int×Int×PUnit),let x0:Nat:=y.2.2.1.toNat;Zi74_2 a k y→bif decide (y.2.2.1<(y.1.length:Int)) then(0:Int)≤y.2.2.1∧x0<y.1.length∧x0<y.1.length∧Zi74_2 a k (List.set y.1 x0 y.2.1,IntKind.wrap IntKind.i64 (y.2.1+(1:Int)),IntKind.wrap IntKind.i64 (y.2.2.1+(1:Int)),())∧Zm74_2 a k (List.set y.1 x0 y.2.1,IntKind.wrap IntKind.i64 (y.2.1+(1:Int)),IntKind.wrap IntKind.i64 (y.2.2.1+(1:Int)),())<Zm74_2 a k y else asD [VI y.2.1]=asD [VI (k+(↑(cntIntS a):Int))]∧asD [VL .int y.1]=asD [VL .int (markIntS a k)]) (by kernel_rfl)
 dsimp only
 refine⟨⟨by omega,by omega,by simp,by simp[ctS]⟩,?_⟩
 rintro⟨row,kk,i,⟨⟩⟩ ⟨h1,h2,rfl,rfl⟩
 simp only
 have hl:=mk_rl (fun _ k=>k) (fun _=>1) a k h1 h2
 refine if_cond (fun hc=> ?_) (fun hc=> ?_)
 ·have hc:i<a.length:=by have hc:=of_decide_eq_true hc;omega
  have hct:=ctS_take (fun _=>1) a (0:Int) h1 hc
  have hle:=ctS_take_le (fun _=>1) a (i+1).toNat
  have hg:=mk_getD _ a (0:Int) (mk_tl (fun _ k=>k) (fun _=>1) a k h1 h2) h1 hc
  have hM:=mkS_step (fun _ k=>k) (fun _=>1) a (0:Int) k h1 hc
  have hq:(cntIntS a:Int)=ctS (fun _=>1) a:=rfl
  generalize List.getD a i.toNat (0:Int)=x at*
  generalize hkk:k+(ctS (fun _=>1) (a.take i.toNat):Int)=kk at*
  generalize List.take i.toNat (mkS (fun _ k=>k) (fun _=>1) a k)++List.drop i.toNat a=R at*
  simp(disch:=first|omega|(simp only[zbf];omega)) only[zbf,wrap_i64,getD_modify,modify_modify,hg,hl]
  repeat' (first|refine And.intro (by omega) ?_|fail)
  exact⟨⟨by omega,by omega,hM,by omega⟩,by simp only[Zm74_2];omega⟩
 ·have hc:a.length≤i:=by have hc:=of_decide_eq_false hc;omega
  rw[mk_done (fun _ k=>k) (fun _=>1) a k hc,ct_done (fun _=>1) a hc]
  exact⟨rfl,rfl⟩
def Zh74:HH:=⟨_,Zo74⟩
def Zk76:Con UU where
 α:=(List Int)×Int
 md:=[.ro,.ro]
 of:=oC (oL .int) (o1 oI)
 ds:=fun x=>[dL .int x.1,dI x.2]
 pre:=fun(a,k)=>[0≤k,k+cntIntS a≤4611686018427387904]
 res:=fun(a,k)=>⟨[dI (if markIntS a k=a then k+cntIntS a else-1)],true,[]⟩
 law:=lC (lL .int) (l1 lI)
def Zi76_2(a:(List Int))(k:Int):Int×Int×Unit→Prop:=fun(kk,i,_)=>0≤i∧i≤a.length∧kk=k+ctS (fun _=>1) (a.take i.toNat)∧(mkS (fun _ k=>k) (fun _=>1) (a.drop i.toNat) kk=a.drop i.toNat↔mkS (fun _ k=>k) (fun _=>1) a k=a)
def Zm76_2(a:(List Int))(k:Int):Int×Int×Unit→Nat:=fun(kk,i,_)=>a.length-i.toNat
def Za76:Zk76.α→Nat→Option (Ann UU):=fun(a,k)=>annL [(2,annOf [.slot 1 (1,1024) (.lit (.int .i64)),.slot 5 (5,1024) (.lit (.int .i64))] (fun _=>Zi76_2 a k) (Zm76_2 a k))]
def Zu76:List (FuncId×Con UU):=[]
theorem Zo76:Holds EE (76,Zk76):=by
 refine holds_of EE_ok func76 Zk76 (by kernel_rfl) Zu76 all_nil Za76 (fun x hp hb=> ?_)
 obtain⟨a,k⟩:=x
 have hl_a:a.length≤9223372036854775807:=bdL (hb _ m0)
 have hl_k:=bdI (n:=k) (hb _ m1)
 have hp0:0≤k:=hp _ m0
 have hp1:k+cntIntS a≤4611686018427387904:=hp _ m1
 clear hp hb
 apply @ve _ (Zi76_2 a k (k,(0:Int),())∧∀(y:Int×Int×PUnit),let x0:Nat:=y.2.1.toNat;Zi76_2 a k y→bif decide (y.2.1<(a.length:Int)) then(0:Int)≤y.2.1∧x0<a.length∧bif List.getD a x0 (0:Int) !=y.1 then Li (-1:Int) (if markIntS a k=a then k+(↑(cntIntS a):Int) else(-1:Int)) else Zi76_2 a k (IntKind.wrap IntKind.i64 (y.1+(1:Int)),IntKind.wrap IntKind.i64 (y.2.1+(1:Int)),())∧Zm76_2 a k (IntKind.wrap IntKind.i64 (y.1+(1:Int)),IntKind.wrap IntKind.i64 (y.2.1+(1:Int)),())<Zm76_2 a k y else Li y.1 (if markIntS a k=a then k+(↑(cntIntS a):Int) else(-1:Int))) (by kernel_rfl)
 dsimp only
 refine⟨⟨by omega,by omega,by simp[ctS],by simp⟩,?_⟩
 rintro⟨kk,i,⟨⟩⟩ ⟨h1,h2,hkk,hR⟩
 simp only
 simp only[markIntS]
 refine if_cond (fun hc=> ?_) (fun hc=> ?_)
 ·have hc:i<a.length:=by have hc:=of_decide_eq_true hc;omega
  have hct:=ctS_take (fun _=>1) a (0:Int) h1 hc
  have hle:=ctS_take_le (fun _=>1) a (i+1).toNat
  have hq:(cntIntS a:Int)=ctS (fun _=>1) a:=rfl
  rw[drop_step a (0:Int) h1 hc] at hR
  generalize List.getD a i.toNat (0:Int)=x at*
  simp only[mkS,zdd] at hR
  have e:kk+(((1:Nat):Int):Int)=kk+1:=by first|(simp only[CU];done)|(rfl)
  rw[e] at hR
  skip
  simp(disch:=omega) only[wrap_i64,bne_int,toList_beq]
  repeat' (first|refine And.intro (by omega) ?_|fail)
  refine if_cond (fun h=>Lf_no (fun hh=> ?_)) (fun h=> ?_)
  ·have hh:=hR.2 hh;simp_all
  have h:x=kk:=by simpa using h
  subst x
  exact⟨⟨by omega,by omega,by omega,by simpa using hR⟩,by simp only[Zm76_2];omega⟩
 ·have hc:a.length≤i:=by have hc:=of_decide_eq_false hc;omega
  rw[drop_end a hc] at hR
  exact Lf_yes (hR.1 rfl) (by rw[hkk,ct_done _ _ hc];rfl)
def Zh76:HH:=⟨_,Zo76⟩
def Zk184:Con UU where
 α:=DVal×Int
 md:=[.ro,.ro]
 of:=oC (oA .lVal) (o1 oI)
 ds:=fun x=>[dA .lVal x.1,dI x.2]
 pre:=fun(a,left)=>[0≤left]
 res:=fun(a,left)=>⟨[dI (szr left (sizeVal a))],true,[]⟩
 law:=lC (lA .lVal) (l1 lI)
def Za184:Zk184.α→Nat→Option (Ann UU):=fun(a,left)=>annL []
def Zu184:List (FuncId×Con UU):=[]
theorem Zo184:Holds EE (184,Zk184):=by
 refine holds_of EE_ok func184 Zk184 (by kernel_rfl) Zu184 all_nil Za184 (fun x hp hb=> ?_)
 obtain⟨a,left⟩:=x
 have hl_a_S:=bd_lVal (x:=a) (hb _ m0)
 have hl_left:=bdI (n:=left) (hb _ m1)
 have hp0:0≤left:=hp _ m0
 clear hp hb
 apply @ve _ (let x0:Int:=IntKind.wrap IntKind.i64 (left-(↑(ByteArray.size a.S):Int));bif decide (x0<(0:Int)) then Li (-1:Int) (szr left (sizeVal a)) else Li x0 (szr left (sizeVal a))) (by kernel_rfl)
 dsimp only
 rw[wrap_i64 (by omega) (by omega)]
 refine if_cond (fun h=>Lf_i (szr_bad' ?_)) (fun h=> ?_)
 ·have h:=of_decide_eq_true h;simp only[sizeVal];omega
 have h0:=of_decide_eq_false h
 exact Lf_i (by rw[←szr_ok' (by simp only[sizeVal];omega)];simp only[sizeVal];try omega)
def Zh184:HH:=⟨_,Zo184⟩
def Zk199:Con UU where
 α:=DVal
 md:=[.ro]
 of:=o1 (oA .lVal)
 ds:=fun x=>[dA .lVal x]
 pre:=fun a=>[sizeVal a≤4294967296]
 res:=fun a=>⟨[dA .eVal a],true,[]⟩
 law:=l1 (lA .lVal)
def Za199:Zk199.α→Nat→Option (Ann UU):=fun a=>annL []
def Zu199:List (FuncId×Con UU):=[]
theorem Zo199:Holds EE (199,Zk199):=by
 refine holds_of EE_ok func199 Zk199 (by kernel_rfl) Zu199 all_nil Za199 (fun(a:DVal) hp hb=> ?_)
 have hl_a_S:=bd_lVal (x:=a) (hb _ m0)
 have hp0:sizeVal a≤4294967296:=hp _ m0
 clear hp hb
 apply @ve _ (Lf [DV.agg [CI a.K,CI a.N,CS a.S]] [DV.agg [CI a.K,CI a.N,CS a.S]]) (by kernel_rfl)
 simp only[sizeVal] at hp0
 repeat' (first|exact Lf_rfl _|(refine And.intro (by omega) ?_))
def Zh199:HH:=⟨_,Zo199⟩
def Zk213:Con UU where
 α:=DVal×DVal
 md:=[.ro,.ro]
 of:=oC (oA .eVal) (o1 (oA .eVal))
 ds:=fun x=>[dA .eVal x.1,dA .eVal x.2]
 pre:=fun _=>[]
 res:=fun(a,b)=>⟨[dO (decide (a=b))],true,[]⟩
 law:=lC (lA .eVal) (l1 (lA .eVal))
def Za213:Zk213.α→Nat→Option (Ann UU):=fun(a,b)=>annL []
def Zu213:List (FuncId×Con UU):=[]
theorem Zo213:Holds EE (213,Zk213):=by
 refine holds_of EE_ok func213 Zk213 (by kernel_rfl) Zu213 all_nil Za213 (fun x hp hb=> ?_)
 obtain⟨a,b⟩:=x
 have hl_a_S:=bd_eVal (x:=a) (hb _ m0)
 have hl_b_S:=bd_eVal (x:=b) (hb _ m1)
 clear hp hb
 apply @ve _ (bif a.K !=b.K then Lb false (decide (a=b)) else bif a.N !=b.N then Lb false (decide (a=b)) else bif !ByteArray.toList a.S==ByteArray.toList b.S then Lb false (decide (a=b)) else Lb true (decide (a=b))) (by kernel_rfl)
 obtain⟨aK,aN,aS⟩:=a
 obtain⟨bK,bN,bS⟩:=b
 repeat' (apply if_cond<;>intro _)
 all_goals (first|apply Lf_t|apply Lf_f)<;>simp_all
def Zh213:HH:=⟨_,Zo213⟩
def Zk252:Con UU where
 α:=(List DVal)×Int
 md:=[.ro,.ro]
 of:=oC (oL .lVal) (o1 oI)
 ds:=fun x=>[dL .lVal x.1,dI x.2]
 pre:=fun(a,left)=>[0≤left]
 res:=fun(a,left)=>⟨[dI (szr left (sizeValS a))],true,[]⟩
 law:=lC (lL .lVal) (l1 lI)
def Zi252_5(a:(List DVal))(left:Int):Int×Int×Unit→Prop:=szI sizeVal a (sizeValS a) left
def Zm252_5(a:(List DVal))(left:Int):Int×Int×Unit→Nat:=rM2 a
def Za252:Zk252.α→Nat→Option (Ann UU):=fun(a,left)=>annL [(5,annOf [.slot 1 (1,1024) (.lit (.int .i64)),.slot 5 (5,1024) (.lit (.int .i64))] (fun _=>Zi252_5 a left) (Zm252_5 a left))]
def Zu252:=us [Zh184]
theorem Zo252:Holds EE (252,Zk252):=by
 refine holds_of EE_ok func252 Zk252 (by kernel_rfl) Zu252 (us_ok _) Za252 (fun x hp hb=> ?_)
 obtain⟨a,left⟩:=x
 have hl_a:a.length≤9223372036854775807:=bdL (hb _ m0)
 have hl_left:=bdI (n:=left) (hb _ m1)
 have hp0:0≤left:=hp _ m0
 clear hp hb
 apply @ve _ (szV sizeVal zVal a (sizeValS a) left) (by kernel_rfl)
 exact szV_ok rfl hp0 hl_left hl_a
def Zh252:HH:=⟨_,Zo252⟩
def Zk262:Con UU where
 α:=(List DVal)
 md:=[.ro]
 of:=o1 (oL .lVal)
 ds:=fun x=>[dL .lVal x]
 pre:=fun a=>[sizeValS a≤4294967296]
 res:=fun a=>⟨[dL .eVal a],true,[]⟩
 law:=l1 (lL .lVal)
def Zi262_3(a:(List DVal)):List DVal×Int×Unit→Prop:=toI zVal a
def Zm262_3(a:(List DVal)):List DVal×Int×Unit→Nat:=rM2 a
def Za262:Zk262.α→Nat→Option (Ann UU):=fun a=>annL [(3,annOf [.slot 3 (3,1024) (.own .eVal true),.slot 4 (4,1024) (.lit (.int .i64))] (fun _=>Zi262_3 a) (Zm262_3 a))]
def Zu262:=us [Zh199]
theorem Zo262:Holds EE (262,Zk262):=by
 refine holds_of EE_ok func262 Zk262 (by kernel_rfl) Zu262 (us_ok _) Za262 (fun(a:(List DVal)) hp hb=> ?_)
 have hl_a:a.length≤9223372036854775807:=bdL (hb _ m0)
 have hp0:sizeValS a≤4294967296:=hp _ m0
 clear hp hb
 apply @ve _ (toV sizeVal zVal a fun y=>Lf [.one (.sl .eVal y)] [.one (.sl .eVal a)]) (by kernel_rfl)
 exact toV_ok hp0 (Lf_rfl _)
def Zh262:HH:=⟨_,Zo262⟩
def Zk273:Con UU where
 α:=(List DVal)×(List DVal)
 md:=[.ro,.ro]
 of:=oC (oL .eVal) (o1 (oL .eVal))
 ds:=fun x=>[dL .eVal x.1,dL .eVal x.2]
 pre:=fun _=>[]
 res:=fun(a,b)=>⟨[dO (decide (a=b))],true,[]⟩
 law:=lC (lL .eVal) (l1 (lL .eVal))
def Zi273_4(a:(List DVal))(b:(List DVal)):Int×Unit→Prop:=eqI a b
def Zm273_4(a:(List DVal))(b:(List DVal)):Int×Unit→Nat:=rM1 a
def Za273:Zk273.α→Nat→Option (Ann UU):=fun(a,b)=>annL [(4,annOf [.slot 5 (5,1024) (.lit (.int .i64))] (fun _=>Zi273_4 a b) (Zm273_4 a b))]
def Zu273:=us [Zh213]
theorem Zo273:Holds EE (273,Zk273):=by
 refine holds_of EE_ok func273 Zk273 (by kernel_rfl) Zu273 (us_ok _) Za273 (fun x hp hb=> ?_)
 obtain⟨a,b⟩:=x
 have hl_a:a.length≤9223372036854775807:=bdL (hb _ m0)
 have hl_b:b.length≤9223372036854775807:=bdL (hb _ m1)
 clear hp hb
 apply @ve _ (eqV zVal a b) (by kernel_rfl)
 exact eqV_ok hl_a
def Zh273:HH:=⟨_,Zo273⟩
def Zk151:Con UU where
 α:=(List DVal)×Int
 md:=[.wr,.ro]
 of:=oC (oL .eVal) (o1 oI)
 ds:=fun x=>[dL .eVal x.1,dI x.2]
 pre:=fun(a,k)=>[0≤k,k+cntValS a≤4611686018427387904]
 res:=fun(a,k)=>⟨[dI (k+cntValS a)],true,[dL .eVal (markValS a k)]⟩
 law:=lC (lL .eVal) (l1 lI)
def Zi151_2(a:(List DVal))(k:Int):List DVal×Int×Int×Unit→Prop:=fun(row,kk,i,_)=>0≤i∧i≤a.length∧row=(mkS markVal cntVal a k).take i.toNat++a.drop i.toNat∧kk=k+ctS cntVal (a.take i.toNat)
def Zm151_2(a:(List DVal))(k:Int):List DVal×Int×Int×Unit→Nat:=fun(row,kk,i,_)=>a.length-i.toNat
def Za151:Zk151.α→Nat→Option (Ann UU):=fun(a,k)=>annL [(2,annOf [.slot 0 (2000000,0) (.own .eVal true),.slot 1 (1,1024) (.lit (.int .i64)),.slot 5 (5,1024) (.lit (.int .i64))] (fun _=>Zi151_2 a k) (Zm151_2 a k))]
def Zu151:=us [Zh146]
theorem Zo151:Holds EE (151,Zk151):=by
 refine holds_of EE_ok func151 Zk151 (by kernel_rfl) Zu151 (us_ok _) Za151 (fun x hp hb=> ?_)
 obtain⟨a,k⟩:=x
 have hl_a:a.length≤9223372036854775807:=bdL (hb _ m0)
 have hl_k:=bdI (n:=k) (hb _ m1)
 have hp0:0≤k:=hp _ m0
 have hp1:k+cntValS a≤4611686018427387904:=hp _ m1
 clear hp hb
 apply @ve _ (Zi151_2 a k (a,k,(0:Int),())∧∀(y:List DVal×Int×Int×PUnit),let x0:Nat:=y.2.2.1.toNat;let x3:Int:=IntKind.wrap IntKind.i64 (y.2.1+(1:Int));let x4:List DVal:=List.modify y.1 x0 fun(x:DVal)=>{K:=y.2.1,N:=x.N,S:=x.S:DVal};let x1:Int:=IntKind.wrap IntKind.i64 (x3+(1:Int));let x2:List DVal:=List.modify x4 x0 fun(x:DVal)=>{K:=x.K,N:=x3,S:=x.S:DVal};Zi151_2 a k y→bif decide (y.2.2.1<(y.1.length:Int)) then(0:Int)≤y.2.2.1∧x0<y.1.length∧x0<y.1.length∧(0:Int)≤y.2.2.1∧x0<x4.length∧x0<x4.length∧x1≤(4611686018427387903:Int)∧(0:Int)≤y.2.2.1∧x0<x2.length∧x0<x2.length∧Zi151_2 a k (List.modify x2 x0 fun(x:DVal)=>{K:=x.K,N:=x.N,S:=markText x1:DVal},IntKind.wrap IntKind.i64 (x1+(1:Int)),IntKind.wrap IntKind.i64 (y.2.2.1+(1:Int)),())∧Zm151_2 a k (List.modify x2 x0 fun(x:DVal)=>{K:=x.K,N:=x.N,S:=markText x1:DVal},IntKind.wrap IntKind.i64 (x1+(1:Int)),IntKind.wrap IntKind.i64 (y.2.2.1+(1:Int)),())<Zm151_2 a k y else asD [VI y.2.1]=asD [VI (k+(↑(cntValS a):Int))]∧asD [VL .eVal y.1]=asD [VL .eVal (markValS a k)]) (by kernel_rfl)
 dsimp only
 refine⟨⟨by omega,by omega,by simp,by simp[ctS]⟩,?_⟩
 rintro⟨row,kk,i,⟨⟩⟩ ⟨h1,h2,rfl,rfl⟩
 simp only
 have hl:=mk_rl markVal cntVal a k h1 h2
 refine if_cond (fun hc=> ?_) (fun hc=> ?_)
 ·have hc:i<a.length:=by have hc:=of_decide_eq_true hc;omega
  have hct:=ctS_take cntVal a zVal h1 hc
  have hle:=ctS_take_le cntVal a (i+1).toNat
  have hg:=mk_getD _ a zVal (mk_tl markVal cntVal a k h1 h2) h1 hc
  have hM:=fun F hF=>mkS_mod markVal cntVal a zVal k (i:=i) F h1 hc hF
  have hq:(cntValS a:Int)=ctS cntVal a:=rfl
  generalize List.getD a i.toNat zVal=x at*
  generalize hkk:k+(ctS cntVal (a.take i.toNat):Int)=kk at*
  generalize List.take i.toNat (mkS markVal cntVal a k)++List.drop i.toNat a=R at*
  simp only[cntVal] at hct
  simp(disch:=first|omega|(simp only[zbf];omega)) only[zbf,wrap_i64,getD_modify,modify_modify,hg,hl]
  repeat' (first|refine And.intro (by omega) ?_|fail)
  exact⟨⟨by omega,by omega,hM _ (by first|rfl|(simp only[markVal,markBool];rw[zbp (by omega)];rfl)),by omega⟩,by simp only[Zm151_2];omega⟩
 ·have hc:a.length≤i:=by have hc:=of_decide_eq_false hc;omega
  rw[mk_done markVal cntVal a k hc,ct_done cntVal a hc]
  exact⟨rfl,rfl⟩
def Zh151:HH:=⟨_,Zo151⟩
def Zk183:Con UU where
 α:=DFact×Int
 md:=[.ro,.ro]
 of:=oC (oA .lFact) (o1 oI)
 ds:=fun x=>[dA .lFact x.1,dI x.2]
 pre:=fun(a,left)=>[0≤left]
 res:=fun(a,left)=>⟨[dI (szr left (sizeFact a))],true,[]⟩
 law:=lC (lA .lFact) (l1 lI)
def Za183:Zk183.α→Nat→Option (Ann UU):=fun(a,left)=>annL []
def Zu183:=us [Zh252]
theorem Zo183:Holds EE (183,Zk183):=by
 refine holds_of EE_ok func183 Zk183 (by kernel_rfl) Zu183 (us_ok _) Za183 (fun x hp hb=> ?_)
 obtain⟨a,left⟩:=x
 have hz0:=bd_lFact (x:=a) (hb _ m0)
 have hl_a_Kind:=hz0.1
 have hl_a_Fields:=hz0.2
 have hl_left:=bdI (n:=left) (hb _ m1)
 have hp0:0≤left:=hp _ m0
 clear hp hb
 apply @ve _ (let x0:Int:=IntKind.wrap IntKind.i64 (left-(↑(ByteArray.size a.Kind):Int));bif decide (x0<(0:Int)) then Li (-1:Int) (szr left (sizeFact a)) else(0:Int)≤x0∧bif decide (szr x0 (sizeValS a.Fields)<(0:Int)) then Li (-1:Int) (szr left (sizeFact a)) else Li (szr x0 (sizeValS a.Fields)) (szr left (sizeFact a))) (by kernel_rfl)
 dsimp only
 rw[wrap_i64 (by omega) (by omega)]
 refine if_cond (fun h=>Lf_i (szr_bad' ?_)) (fun h=> ?_)
 ·have h:=of_decide_eq_true h;simp only[sizeFact];omega
 have h0:=of_decide_eq_false h
 refine⟨by omega,if_cond (fun h=>Lf_i (szr_bad' ?_)) (fun h=> ?_)⟩
 ·have h:=szr_neg h;simp only[sizeFact];omega
 obtain⟨e1,h1⟩:=szr_pos h
 rw[e1]
 exact Lf_i (by rw[←szr_ok' (by simp only[sizeFact];omega)];simp only[sizeFact];try omega)
def Zh183:HH:=⟨_,Zo183⟩
def Zk198:Con UU where
 α:=DFact
 md:=[.ro]
 of:=o1 (oA .lFact)
 ds:=fun x=>[dA .lFact x]
 pre:=fun a=>[sizeFact a≤4294967296]
 res:=fun a=>⟨[dA .eFact a],true,[]⟩
 law:=l1 (lA .lFact)
def Za198:Zk198.α→Nat→Option (Ann UU):=fun a=>annL []
def Zu198:=us [Zh262]
theorem Zo198:Holds EE (198,Zk198):=by
 refine holds_of EE_ok func198 Zk198 (by kernel_rfl) Zu198 (us_ok _) Za198 (fun(a:DFact) hp hb=> ?_)
 have hz0:=bd_lFact (x:=a) (hb _ m0)
 have hl_a_Kind:=hz0.1
 have hl_a_Fields:=hz0.2
 have hp0:sizeFact a≤4294967296:=hp _ m0
 clear hp hb
 apply @ve _ (sizeValS a.Fields≤(4294967296:Nat)∧Lf [DV.agg [CS a.Kind,CL .eVal a.Fields]] [DV.agg [CS a.Kind,CL .eVal a.Fields]]) (by kernel_rfl)
 simp only[sizeFact] at hp0
 repeat' (first|exact Lf_rfl _|(refine And.intro (by omega) ?_))
def Zh198:HH:=⟨_,Zo198⟩
def Zk218:Con UU where
 α:=DFact×DFact
 md:=[.ro,.ro]
 of:=oC (oA .eFact) (o1 (oA .eFact))
 ds:=fun x=>[dA .eFact x.1,dA .eFact x.2]
 pre:=fun _=>[]
 res:=fun(a,b)=>⟨[dO (decide (a=b))],true,[]⟩
 law:=lC (lA .eFact) (l1 (lA .eFact))
def Za218:Zk218.α→Nat→Option (Ann UU):=fun(a,b)=>annL []
def Zu218:=us [Zh273]
theorem Zo218:Holds EE (218,Zk218):=by
 refine holds_of EE_ok func218 Zk218 (by kernel_rfl) Zu218 (us_ok _) Za218 (fun x hp hb=> ?_)
 obtain⟨a,b⟩:=x
 have hz0:=bd_eFact (x:=a) (hb _ m0)
 have hl_a_Kind:=hz0.1
 have hl_a_Fields:=hz0.2
 have hz1:=bd_eFact (x:=b) (hb _ m1)
 have hl_b_Kind:=hz1.1
 have hl_b_Fields:=hz1.2
 clear hp hb
 apply @ve _ (bif !ByteArray.toList a.Kind==ByteArray.toList b.Kind then Lb false (decide (a=b)) else bif !decide (a.Fields=b.Fields) then Lb false (decide (a=b)) else Lb true (decide (a=b))) (by kernel_rfl)
 obtain⟨aKind,aFields⟩:=a
 obtain⟨bKind,bFields⟩:=b
 repeat' (apply if_cond<;>intro _)
 all_goals (first|apply Lf_t|apply Lf_f)<;>simp_all
def Zh218:HH:=⟨_,Zo218⟩
def Zk112:Con UU where
 α:=DTimer×Int
 md:=[.ro,.ro]
 of:=oC (oA .lTimer) (o1 oI)
 ds:=fun x=>[dA .lTimer x.1,dI x.2]
 pre:=fun(a,left)=>[0≤left]
 res:=fun(a,left)=>⟨[dI (szr left (sizeTimer a))],true,[]⟩
 law:=lC (lA .lTimer) (l1 lI)
def Za112:Zk112.α→Nat→Option (Ann UU):=fun(a,left)=>annL []
def Zu112:=us [Zh183]
theorem Zo112:Holds EE (112,Zk112):=by
 refine holds_of EE_ok func112 Zk112 (by kernel_rfl) Zu112 (us_ok _) Za112 (fun x hp hb=> ?_)
 obtain⟨a,left⟩:=x
 have hz0:=bd_lTimer (x:=a) (hb _ m0)
 have hl_a_F_Kind:=hz0.1
 have hl_a_F_Fields:=hz0.2
 have hl_left:=bdI (n:=left) (hb _ m1)
 have hp0:0≤left:=hp _ m0
 clear hp hb
 apply @ve _ ((0:Int)≤left∧bif decide (szr left (sizeFact a.F)<(0:Int)) then Li (-1:Int) (szr left (sizeTimer a)) else Li (szr left (sizeFact a.F)) (szr left (sizeTimer a))) (by kernel_rfl)
 refine⟨by omega,if_cond (fun h=>Lf_i (szr_bad' ?_)) (fun h=> ?_)⟩
 ·have h:=szr_neg h;simp only[sizeTimer];omega
 obtain⟨e0,h0⟩:=szr_pos h
 rw[e0]
 exact Lf_i (by rw[←szr_ok' (by simp only[sizeTimer];omega)];simp only[sizeTimer];try omega)
def Zh112:HH:=⟨_,Zo112⟩
def Zk127:Con UU where
 α:=DTimer
 md:=[.ro]
 of:=o1 (oA .lTimer)
 ds:=fun x=>[dA .lTimer x]
 pre:=fun a=>[sizeTimer a≤4294967296]
 res:=fun a=>⟨[dA .eTimer a],true,[]⟩
 law:=l1 (lA .lTimer)
def Za127:Zk127.α→Nat→Option (Ann UU):=fun a=>annL []
def Zu127:=us [Zh198]
theorem Zo127:Holds EE (127,Zk127):=by
 refine holds_of EE_ok func127 Zk127 (by kernel_rfl) Zu127 (us_ok _) Za127 (fun(a:DTimer) hp hb=> ?_)
 have hz0:=bd_lTimer (x:=a) (hb _ m0)
 have hl_a_F_Kind:=hz0.1
 have hl_a_F_Fields:=hz0.2
 have hp0:sizeTimer a≤4294967296:=hp _ m0
 clear hp hb
 apply @ve _ (sizeFact a.F≤(4294967296:Nat)∧Lf [DV.agg [CI a.At,CS a.F.Kind,CL .eVal a.F.Fields]] [DV.agg [CI a.At,CS a.F.Kind,CL .eVal a.F.Fields]]) (by kernel_rfl)
 simp only[sizeTimer] at hp0
 repeat' (first|exact Lf_rfl _|(refine And.intro (by omega) ?_))
def Zh127:HH:=⟨_,Zo127⟩
def Zk144:Con UU where
 α:=DTimer×DTimer
 md:=[.ro,.ro]
 of:=oC (oA .eTimer) (o1 (oA .eTimer))
 ds:=fun x=>[dA .eTimer x.1,dA .eTimer x.2]
 pre:=fun _=>[]
 res:=fun(a,b)=>⟨[dO (decide (a=b))],true,[]⟩
 law:=lC (lA .eTimer) (l1 (lA .eTimer))
def Za144:Zk144.α→Nat→Option (Ann UU):=fun(a,b)=>annL []
def Zu144:=us [Zh218]
theorem Zo144:Holds EE (144,Zk144):=by
 refine holds_of EE_ok func144 Zk144 (by kernel_rfl) Zu144 (us_ok _) Za144 (fun x hp hb=> ?_)
 obtain⟨a,b⟩:=x
 have hz0:=bd_eTimer (x:=a) (hb _ m0)
 have hl_a_F_Kind:=hz0.1
 have hl_a_F_Fields:=hz0.2
 have hz1:=bd_eTimer (x:=b) (hb _ m1)
 have hl_b_F_Kind:=hz1.1
 have hl_b_F_Fields:=hz1.2
 clear hp hb
 apply @ve _ (bif a.At !=b.At then Lb false (decide (a=b)) else bif !decide (a.F=b.F) then Lb false (decide (a=b)) else Lb true (decide (a=b))) (by kernel_rfl)
 obtain⟨aAt,aF⟩:=a
 obtain⟨bAt,bF⟩:=b
 repeat' (apply if_cond<;>intro _)
 all_goals (first|apply Lf_t|apply Lf_f)<;>simp_all
def Zh144:HH:=⟨_,Zo144⟩
def Zk48:Con UU where
 α:=(List DTimer)×Int
 md:=[.ro,.ro]
 of:=oC (oL .lTimer) (o1 oI)
 ds:=fun x=>[dL .lTimer x.1,dI x.2]
 pre:=fun(a,left)=>[0≤left]
 res:=fun(a,left)=>⟨[dI (szr left (sizeTimerS a))],true,[]⟩
 law:=lC (lL .lTimer) (l1 lI)
def Zi48_5(a:(List DTimer))(left:Int):Int×Int×Unit→Prop:=szI sizeTimer a (sizeTimerS a) left
def Zm48_5(a:(List DTimer))(left:Int):Int×Int×Unit→Nat:=rM2 a
def Za48:Zk48.α→Nat→Option (Ann UU):=fun(a,left)=>annL [(5,annOf [.slot 1 (1,1024) (.lit (.int .i64)),.slot 5 (5,1024) (.lit (.int .i64))] (fun _=>Zi48_5 a left) (Zm48_5 a left))]
def Zu48:=us [Zh112]
theorem Zo48:Holds EE (48,Zk48):=by
 refine holds_of EE_ok func48 Zk48 (by kernel_rfl) Zu48 (us_ok _) Za48 (fun x hp hb=> ?_)
 obtain⟨a,left⟩:=x
 have hl_a:a.length≤9223372036854775807:=bdL (hb _ m0)
 have hl_left:=bdI (n:=left) (hb _ m1)
 have hp0:0≤left:=hp _ m0
 clear hp hb
 apply @ve _ (szV sizeTimer zTimer a (sizeTimerS a) left) (by kernel_rfl)
 exact szV_ok rfl hp0 hl_left hl_a
def Zh48:HH:=⟨_,Zo48⟩
def Zk56:Con UU where
 α:=(List DTimer)
 md:=[.ro]
 of:=o1 (oL .lTimer)
 ds:=fun x=>[dL .lTimer x]
 pre:=fun a=>[sizeTimerS a≤4294967296]
 res:=fun a=>⟨[dL .eTimer a],true,[]⟩
 law:=l1 (lL .lTimer)
def Zi56_3(a:(List DTimer)):List DTimer×Int×Unit→Prop:=toI zTimer a
def Zm56_3(a:(List DTimer)):List DTimer×Int×Unit→Nat:=rM2 a
def Za56:Zk56.α→Nat→Option (Ann UU):=fun a=>annL [(3,annOf [.slot 3 (3,1024) (.own .eTimer true),.slot 4 (4,1024) (.lit (.int .i64))] (fun _=>Zi56_3 a) (Zm56_3 a))]
def Zu56:=us [Zh127]
theorem Zo56:Holds EE (56,Zk56):=by
 refine holds_of EE_ok func56 Zk56 (by kernel_rfl) Zu56 (us_ok _) Za56 (fun(a:(List DTimer)) hp hb=> ?_)
 have hl_a:a.length≤9223372036854775807:=bdL (hb _ m0)
 have hp0:sizeTimerS a≤4294967296:=hp _ m0
 clear hp hb
 apply @ve _ (toV sizeTimer zTimer a fun y=>Lf [.one (.sl .eTimer y)] [.one (.sl .eTimer a)]) (by kernel_rfl)
 exact toV_ok hp0 (Lf_rfl _)
def Zh56:HH:=⟨_,Zo56⟩
def Zk66:Con UU where
 α:=(List DTimer)×(List DTimer)
 md:=[.ro,.ro]
 of:=oC (oL .eTimer) (o1 (oL .eTimer))
 ds:=fun x=>[dL .eTimer x.1,dL .eTimer x.2]
 pre:=fun _=>[]
 res:=fun(a,b)=>⟨[dO (decide (a=b))],true,[]⟩
 law:=lC (lL .eTimer) (l1 (lL .eTimer))
def Zi66_4(a:(List DTimer))(b:(List DTimer)):Int×Unit→Prop:=eqI a b
def Zm66_4(a:(List DTimer))(b:(List DTimer)):Int×Unit→Nat:=rM1 a
def Za66:Zk66.α→Nat→Option (Ann UU):=fun(a,b)=>annL [(4,annOf [.slot 5 (5,1024) (.lit (.int .i64))] (fun _=>Zi66_4 a b) (Zm66_4 a b))]
def Zu66:=us [Zh144]
theorem Zo66:Holds EE (66,Zk66):=by
 refine holds_of EE_ok func66 Zk66 (by kernel_rfl) Zu66 (us_ok _) Za66 (fun x hp hb=> ?_)
 obtain⟨a,b⟩:=x
 have hl_a:a.length≤9223372036854775807:=bdL (hb _ m0)
 have hl_b:b.length≤9223372036854775807:=bdL (hb _ m1)
 clear hp hb
 apply @ve _ (eqV zTimer a b) (by kernel_rfl)
 exact eqV_ok hl_a
def Zh66:HH:=⟨_,Zo66⟩
def Zk72:Con UU where
 α:=(List DTimer)×Int
 md:=[.wr,.ro]
 of:=oC (oL .eTimer) (o1 oI)
 ds:=fun x=>[dL .eTimer x.1,dI x.2]
 pre:=fun(a,k)=>[0≤k,k+cntTimerS a≤4611686018427387904]
 res:=fun(a,k)=>⟨[dI (k+cntTimerS a)],true,[dL .eTimer (markTimerS a k)]⟩
 law:=lC (lL .eTimer) (l1 lI)
def Zi72_2(a:(List DTimer))(k:Int):List DTimer×Int×Int×Unit→Prop:=fun(row,kk,i,_)=>0≤i∧i≤a.length∧row=(mkS markTimer cntTimer a k).take i.toNat++a.drop i.toNat∧kk=k+ctS cntTimer (a.take i.toNat)
def Zm72_2(a:(List DTimer))(k:Int):List DTimer×Int×Int×Unit→Nat:=fun(row,kk,i,_)=>a.length-i.toNat
def Za72:Zk72.α→Nat→Option (Ann UU):=fun(a,k)=>annL [(2,annOf [.slot 0 (2000000,0) (.own .eTimer true),.slot 1 (1,1024) (.lit (.int .i64)),.slot 5 (5,1024) (.lit (.int .i64))] (fun _=>Zi72_2 a k) (Zm72_2 a k))]
def Zu72:=us [Zh146,Zh151]
theorem Zo72:Holds EE (72,Zk72):=by
 refine holds_of EE_ok func72 Zk72 (by kernel_rfl) Zu72 (us_ok _) Za72 (fun x hp hb=> ?_)
 obtain⟨a,k⟩:=x
 have hl_a:a.length≤9223372036854775807:=bdL (hb _ m0)
 have hl_k:=bdI (n:=k) (hb _ m1)
 have hp0:0≤k:=hp _ m0
 have hp1:k+cntTimerS a≤4611686018427387904:=hp _ m1
 clear hp hb
 apply @ve _ (Zi72_2 a k (a,k,(0:Int),())∧∀(y:List DTimer×Int×Int×PUnit),let x1:Nat:=y.2.2.1.toNat;let x3:Int:=IntKind.wrap IntKind.i64 (y.2.1+(1:Int));let x4:List DTimer:=List.modify y.1 x1 fun(x:DTimer)=>{At:=y.2.1,F:=x.F:DTimer};let x0:List DTimer:=List.modify x4 x1 fun(x:DTimer)=>{At:=x.At,F:={Kind:=markText x3,Fields:=x.F.Fields:DFact}:DTimer};let x2:Int:=IntKind.wrap IntKind.i64 (x3+(1:Int));let x5:Int:=x2+(↑(cntValS (List.getD x0 x1 zTimer).F.Fields):Int);Zi72_2 a k y→bif decide (y.2.2.1<(y.1.length:Int)) then(0:Int)≤y.2.2.1∧x1<y.1.length∧x1<y.1.length∧x3≤(4611686018427387903:Int)∧(0:Int)≤y.2.2.1∧x1<x4.length∧x1<x4.length∧(0:Int)≤y.2.2.1∧x1<x0.length∧x1<x0.length∧x1<x0.length∧(0:Int)≤x2∧x5≤(4611686018427387904:Int)∧Zi72_2 a k (List.modify x0 x1 fun(x:DTimer)=>{At:=x.At,F:={Kind:=x.F.Kind,Fields:=markValS (List.getD x0 x1 zTimer).F.Fields x2:DFact}:DTimer},x5,IntKind.wrap IntKind.i64 (y.2.2.1+(1:Int)),())∧Zm72_2 a k (List.modify x0 x1 fun(x:DTimer)=>{At:=x.At,F:={Kind:=x.F.Kind,Fields:=markValS (List.getD x0 x1 zTimer).F.Fields x2:DFact}:DTimer},x5,IntKind.wrap IntKind.i64 (y.2.2.1+(1:Int)),())<Zm72_2 a k y else asD [VI y.2.1]=asD [VI (k+(↑(cntTimerS a):Int))]∧asD [VL .eTimer y.1]=asD [VL .eTimer (markTimerS a k)]) (by kernel_rfl)
 dsimp only
 refine⟨⟨by omega,by omega,by simp,by simp[ctS]⟩,?_⟩
 rintro⟨row,kk,i,⟨⟩⟩ ⟨h1,h2,rfl,rfl⟩
 simp only
 have hl:=mk_rl markTimer cntTimer a k h1 h2
 refine if_cond (fun hc=> ?_) (fun hc=> ?_)
 ·have hc:i<a.length:=by have hc:=of_decide_eq_true hc;omega
  have hct:=ctS_take cntTimer a zTimer h1 hc
  have hle:=ctS_take_le cntTimer a (i+1).toNat
  have hg:=mk_getD _ a zTimer (mk_tl markTimer cntTimer a k h1 h2) h1 hc
  have hM:=fun F hF=>mkS_mod markTimer cntTimer a zTimer k (i:=i) F h1 hc hF
  have hq:(cntTimerS a:Int)=ctS cntTimer a:=rfl
  generalize List.getD a i.toNat zTimer=x at*
  generalize hkk:k+(ctS cntTimer (a.take i.toNat):Int)=kk at*
  generalize List.take i.toNat (mkS markTimer cntTimer a k)++List.drop i.toNat a=R at*
  simp only[cntTimer] at hct
  simp(disch:=first|omega|(simp only[zbf];omega)) only[zbf,wrap_i64,getD_modify,modify_modify,hg,hl]
  repeat' (first|refine And.intro (by omega) ?_|fail)
  exact⟨⟨by omega,by omega,hM _ (by first|rfl|(simp only[markTimer,markBool];rw[zbp (by omega)];rfl)),by omega⟩,by simp only[Zm72_2];omega⟩
 ·have hc:a.length≤i:=by have hc:=of_decide_eq_false hc;omega
  rw[mk_done markTimer cntTimer a k hc,ct_done cntTimer a hc]
  exact⟨rfl,rfl⟩
def Zh72:HH:=⟨_,Zo72⟩
def Zk111:Con UU where
 α:=DTask×Int
 md:=[.ro,.ro]
 of:=oC (oA .lTask) (o1 oI)
 ds:=fun x=>[dA .lTask x.1,dI x.2]
 pre:=fun(a,left)=>[0≤left]
 res:=fun(a,left)=>⟨[dI (szr left (sizeTask a))],true,[]⟩
 law:=lC (lA .lTask) (l1 lI)
def Za111:Zk111.α→Nat→Option (Ann UU):=fun(a,left)=>annL []
def Zu111:=us [Zh183,Zh184]
theorem Zo111:Holds EE (111,Zk111):=by
 refine holds_of EE_ok func111 Zk111 (by kernel_rfl) Zu111 (us_ok _) Za111 (fun x hp hb=> ?_)
 obtain⟨a,left⟩:=x
 have hz0:=bd_lTask (x:=a) (hb _ m0)
 have hl_a_F_Kind:=hz0.1
 have hl_a_F_Fields:=hz0.2.1
 have hl_a_Undo:=hz0.2.2.1
 have hl_a_V_S:=hz0.2.2.2
 have hl_left:=bdI (n:=left) (hb _ m1)
 have hp0:0≤left:=hp _ m0
 clear hp hb
 apply @ve _ (let x0:Int:=IntKind.wrap IntKind.i64 (szr left (sizeFact a.F)-(↑(ByteArray.size a.Undo):Int));(0:Int)≤left∧bif decide (szr left (sizeFact a.F)<(0:Int)) then Li (-1:Int) (szr left (sizeTask a)) else bif decide (x0<(0:Int)) then Li (-1:Int) (szr left (sizeTask a)) else(0:Int)≤x0∧bif decide (szr x0 (sizeVal a.V)<(0:Int)) then Li (-1:Int) (szr left (sizeTask a)) else Li (szr x0 (sizeVal a.V)) (szr left (sizeTask a))) (by kernel_rfl)
 dsimp only
 refine⟨by omega,if_cond (fun h=>Lf_i (szr_bad' ?_)) (fun h=> ?_)⟩
 ·have h:=szr_neg h;simp only[sizeTask];omega
 obtain⟨e0,h0⟩:=szr_pos h
 rw[e0]
 rw[wrap_i64 (by omega) (by omega)]
 refine if_cond (fun h=>Lf_i (szr_bad' ?_)) (fun h=> ?_)
 ·have h:=of_decide_eq_true h;simp only[sizeTask];omega
 have h1:=of_decide_eq_false h
 refine⟨by omega,if_cond (fun h=>Lf_i (szr_bad' ?_)) (fun h=> ?_)⟩
 ·have h:=szr_neg h;simp only[sizeTask];omega
 obtain⟨e2,h2⟩:=szr_pos h
 rw[e2]
 exact Lf_i (by rw[←szr_ok' (by simp only[sizeTask];omega)];simp only[sizeTask];try omega)
def Zh111:HH:=⟨_,Zo111⟩
def Zk126:Con UU where
 α:=DTask
 md:=[.ro]
 of:=o1 (oA .lTask)
 ds:=fun x=>[dA .lTask x]
 pre:=fun a=>[sizeTask a≤4294967296]
 res:=fun a=>⟨[dA .eTask a],true,[]⟩
 law:=l1 (lA .lTask)
def Za126:Zk126.α→Nat→Option (Ann UU):=fun a=>annL []
def Zu126:=us [Zh198,Zh199]
theorem Zo126:Holds EE (126,Zk126):=by
 refine holds_of EE_ok func126 Zk126 (by kernel_rfl) Zu126 (us_ok _) Za126 (fun(a:DTask) hp hb=> ?_)
 have hz0:=bd_lTask (x:=a) (hb _ m0)
 have hl_a_F_Kind:=hz0.1
 have hl_a_F_Fields:=hz0.2.1
 have hl_a_Undo:=hz0.2.2.1
 have hl_a_V_S:=hz0.2.2.2
 have hp0:sizeTask a≤4294967296:=hp _ m0
 clear hp hb
 apply @ve _ (sizeFact a.F≤(4294967296:Nat)∧sizeVal a.V≤(4294967296:Nat)∧Lf [DV.agg [CS a.F.Kind,CL .eVal a.F.Fields,CS a.Undo,CI a.State,CI a.Tries,CI a.Due,CI a.V.K,CI a.V.N,CS a.V.S]] [DV.agg [CS a.F.Kind,CL .eVal a.F.Fields,CS a.Undo,CI a.State,CI a.Tries,CI a.Due,CI a.V.K,CI a.V.N,CS a.V.S]]) (by kernel_rfl)
 simp only[sizeTask] at hp0
 repeat' (first|exact Lf_rfl _|(refine And.intro (by omega) ?_))
def Zh126:HH:=⟨_,Zo126⟩
def Zk143:Con UU where
 α:=DTask×DTask
 md:=[.ro,.ro]
 of:=oC (oA .eTask) (o1 (oA .eTask))
 ds:=fun x=>[dA .eTask x.1,dA .eTask x.2]
 pre:=fun _=>[]
 res:=fun(a,b)=>⟨[dO (decide (a=b))],true,[]⟩
 law:=lC (lA .eTask) (l1 (lA .eTask))
def Za143:Zk143.α→Nat→Option (Ann UU):=fun(a,b)=>annL []
def Zu143:=us [Zh218,Zh213]
theorem Zo143:Holds EE (143,Zk143):=by
 refine holds_of EE_ok func143 Zk143 (by kernel_rfl) Zu143 (us_ok _) Za143 (fun x hp hb=> ?_)
 obtain⟨a,b⟩:=x
 have hz0:=bd_eTask (x:=a) (hb _ m0)
 have hl_a_F_Kind:=hz0.1
 have hl_a_F_Fields:=hz0.2.1
 have hl_a_Undo:=hz0.2.2.1
 have hl_a_V_S:=hz0.2.2.2
 have hz1:=bd_eTask (x:=b) (hb _ m1)
 have hl_b_F_Kind:=hz1.1
 have hl_b_F_Fields:=hz1.2.1
 have hl_b_Undo:=hz1.2.2.1
 have hl_b_V_S:=hz1.2.2.2
 clear hp hb
 apply @ve _ (bif !decide (a.F=b.F) then Lb false (decide (a=b)) else bif !ByteArray.toList a.Undo==ByteArray.toList b.Undo then Lb false (decide (a=b)) else bif a.State !=b.State then Lb false (decide (a=b)) else bif a.Tries !=b.Tries then Lb false (decide (a=b)) else bif a.Due !=b.Due then Lb false (decide (a=b)) else bif !decide (a.V=b.V) then Lb false (decide (a=b)) else Lb true (decide (a=b))) (by kernel_rfl)
 obtain⟨aF,aUndo,aState,aTries,aDue,aV⟩:=a
 obtain⟨bF,bUndo,bState,bTries,bDue,bV⟩:=b
 repeat' (apply if_cond<;>intro _)
 all_goals (first|apply Lf_t|apply Lf_f)<;>simp_all
def Zh143:HH:=⟨_,Zo143⟩
def Zk47:Con UU where
 α:=(List DTask)×Int
 md:=[.ro,.ro]
 of:=oC (oL .lTask) (o1 oI)
 ds:=fun x=>[dL .lTask x.1,dI x.2]
 pre:=fun(a,left)=>[0≤left]
 res:=fun(a,left)=>⟨[dI (szr left (sizeTaskS a))],true,[]⟩
 law:=lC (lL .lTask) (l1 lI)
def Zi47_5(a:(List DTask))(left:Int):Int×Int×Unit→Prop:=szI sizeTask a (sizeTaskS a) left
def Zm47_5(a:(List DTask))(left:Int):Int×Int×Unit→Nat:=rM2 a
def Za47:Zk47.α→Nat→Option (Ann UU):=fun(a,left)=>annL [(5,annOf [.slot 1 (1,1024) (.lit (.int .i64)),.slot 5 (5,1024) (.lit (.int .i64))] (fun _=>Zi47_5 a left) (Zm47_5 a left))]
def Zu47:=us [Zh111]
theorem Zo47:Holds EE (47,Zk47):=by
 refine holds_of EE_ok func47 Zk47 (by kernel_rfl) Zu47 (us_ok _) Za47 (fun x hp hb=> ?_)
 obtain⟨a,left⟩:=x
 have hl_a:a.length≤9223372036854775807:=bdL (hb _ m0)
 have hl_left:=bdI (n:=left) (hb _ m1)
 have hp0:0≤left:=hp _ m0
 clear hp hb
 apply @ve _ (szV sizeTask zTask a (sizeTaskS a) left) (by kernel_rfl)
 exact szV_ok rfl hp0 hl_left hl_a
def Zh47:HH:=⟨_,Zo47⟩
def Zk55:Con UU where
 α:=(List DTask)
 md:=[.ro]
 of:=o1 (oL .lTask)
 ds:=fun x=>[dL .lTask x]
 pre:=fun a=>[sizeTaskS a≤4294967296]
 res:=fun a=>⟨[dL .eTask a],true,[]⟩
 law:=l1 (lL .lTask)
def Zi55_3(a:(List DTask)):List DTask×Int×Unit→Prop:=toI zTask a
def Zm55_3(a:(List DTask)):List DTask×Int×Unit→Nat:=rM2 a
def Za55:Zk55.α→Nat→Option (Ann UU):=fun a=>annL [(3,annOf [.slot 3 (3,1024) (.own .eTask true),.slot 4 (4,1024) (.lit (.int .i64))] (fun _=>Zi55_3 a) (Zm55_3 a))]
def Zu55:=us [Zh126]
theorem Zo55:Holds EE (55,Zk55):=by
 refine holds_of EE_ok func55 Zk55 (by kernel_rfl) Zu55 (us_ok _) Za55 (fun(a:(List DTask)) hp hb=> ?_)
 have hl_a:a.length≤9223372036854775807:=bdL (hb _ m0)
 have hp0:sizeTaskS a≤4294967296:=hp _ m0
 clear hp hb
 apply @ve _ (toV sizeTask zTask a fun y=>Lf [.one (.sl .eTask y)] [.one (.sl .eTask a)]) (by kernel_rfl)
 exact toV_ok hp0 (Lf_rfl _)
def Zh55:HH:=⟨_,Zo55⟩
def Zk65:Con UU where
 α:=(List DTask)×(List DTask)
 md:=[.ro,.ro]
 of:=oC (oL .eTask) (o1 (oL .eTask))
 ds:=fun x=>[dL .eTask x.1,dL .eTask x.2]
 pre:=fun _=>[]
 res:=fun(a,b)=>⟨[dO (decide (a=b))],true,[]⟩
 law:=lC (lL .eTask) (l1 (lL .eTask))
def Zi65_4(a:(List DTask))(b:(List DTask)):Int×Unit→Prop:=eqI a b
def Zm65_4(a:(List DTask))(b:(List DTask)):Int×Unit→Nat:=rM1 a
def Za65:Zk65.α→Nat→Option (Ann UU):=fun(a,b)=>annL [(4,annOf [.slot 5 (5,1024) (.lit (.int .i64))] (fun _=>Zi65_4 a b) (Zm65_4 a b))]
def Zu65:=us [Zh143]
theorem Zo65:Holds EE (65,Zk65):=by
 refine holds_of EE_ok func65 Zk65 (by kernel_rfl) Zu65 (us_ok _) Za65 (fun x hp hb=> ?_)
 obtain⟨a,b⟩:=x
 have hl_a:a.length≤9223372036854775807:=bdL (hb _ m0)
 have hl_b:b.length≤9223372036854775807:=bdL (hb _ m1)
 clear hp hb
 apply @ve _ (eqV zTask a b) (by kernel_rfl)
 exact eqV_ok hl_a
def Zh65:HH:=⟨_,Zo65⟩
def Zk71:Con UU where
 α:=(List DTask)×Int
 md:=[.wr,.ro]
 of:=oC (oL .eTask) (o1 oI)
 ds:=fun x=>[dL .eTask x.1,dI x.2]
 pre:=fun(a,k)=>[0≤k,k+cntTaskS a≤4611686018427387904]
 res:=fun(a,k)=>⟨[dI (k+cntTaskS a)],true,[dL .eTask (markTaskS a k)]⟩
 law:=lC (lL .eTask) (l1 lI)
def Zi71_2(a:(List DTask))(k:Int):List DTask×Int×Int×Unit→Prop:=fun(row,kk,i,_)=>0≤i∧i≤a.length∧row=(mkS markTask cntTask a k).take i.toNat++a.drop i.toNat∧kk=k+ctS cntTask (a.take i.toNat)
def Zm71_2(a:(List DTask))(k:Int):List DTask×Int×Int×Unit→Nat:=fun(row,kk,i,_)=>a.length-i.toNat
def Za71:Zk71.α→Nat→Option (Ann UU):=fun(a,k)=>annL [(2,annOf [.slot 0 (2000000,0) (.own .eTask true),.slot 1 (1,1024) (.lit (.int .i64)),.slot 5 (5,1024) (.lit (.int .i64))] (fun _=>Zi71_2 a k) (Zm71_2 a k))]
def Zu71:=us [Zh146,Zh151]
theorem Zo71:Holds EE (71,Zk71):=by
 refine holds_of EE_ok func71 Zk71 (by kernel_rfl) Zu71 (us_ok _) Za71 (fun x hp hb=> ?_)
 obtain⟨a,k⟩:=x
 have hl_a:a.length≤9223372036854775807:=bdL (hb _ m0)
 have hl_k:=bdI (n:=k) (hb _ m1)
 have hp0:0≤k:=hp _ m0
 have hp1:k+cntTaskS a≤4611686018427387904:=hp _ m1
 clear hp hb
 apply @ve _ (Zi71_2 a k (a,k,(0:Int),())∧∀(y:List DTask×Int×Int×PUnit),let x4:Nat:=y.2.2.1.toNat;let x9:List DTask:=List.modify y.1 x4 fun(x:DTask)=>{F:={Kind:=markText y.2.1,Fields:=x.F.Fields:DFact},Undo:=x.Undo,State:=x.State,Tries:=x.Tries,Due:=x.Due,V:=x.V:DTask};let x10:Int:=IntKind.wrap IntKind.i64 (y.2.1+(1:Int));let x6:Int:=x10+(↑(cntValS (List.getD x9 x4 zTask).F.Fields):Int);let x8:List DTask:=List.modify x9 x4 fun(x:DTask)=>{F:={Kind:=x.F.Kind,Fields:=markValS (List.getD x9 x4 zTask).F.Fields x10:DFact},Undo:=x.Undo,State:=x.State,Tries:=x.Tries,Due:=x.Due,V:=x.V:DTask};let x15:Int:=IntKind.wrap IntKind.i64 (IntKind.wrap IntKind.i64 (x6+(1:Int))+(1:Int));let x7:List DTask:=List.modify x8 x4 fun(x:DTask)=>{F:=x.F,Undo:=markText x6,State:=x.State,Tries:=x.Tries,Due:=x.Due,V:=x.V:DTask};let x14:Int:=IntKind.wrap IntKind.i64 (x15+(1:Int));let x5:List DTask:=List.modify x7 x4 fun(x:DTask)=>{F:=x.F,Undo:=x.Undo,State:=IntKind.wrap IntKind.i64 (x6+(1:Int)),Tries:=x.Tries,Due:=x.Due,V:=x.V:DTask};let x13:Int:=IntKind.wrap IntKind.i64 (x14+(1:Int));let x3:List DTask:=List.modify x5 x4 fun(x:DTask)=>{F:=x.F,Undo:=x.Undo,State:=x.State,Tries:=x15,Due:=x.Due,V:=x.V:DTask};let x12:Int:=IntKind.wrap IntKind.i64 (x13+(1:Int));let x2:List DTask:=List.modify x3 x4 fun(x:DTask)=>{F:=x.F,Undo:=x.Undo,State:=x.State,Tries:=x.Tries,Due:=x14,V:=x.V:DTask};let x11:Int:=IntKind.wrap IntKind.i64 (x12+(1:Int));let x1:List DTask:=List.modify x2 x4 fun(x:DTask)=>{F:=x.F,Undo:=x.Undo,State:=x.State,Tries:=x.Tries,Due:=x.Due,V:={K:=x13,N:=x.V.N,S:=x.V.S:DVal}:DTask};let x0:List DTask:=List.modify x1 x4 fun(x:DTask)=>{F:=x.F,Undo:=x.Undo,State:=x.State,Tries:=x.Tries,Due:=x.Due,V:={K:=x.V.K,N:=x12,S:=x.V.S:DVal}:DTask};Zi71_2 a k y→bif decide (y.2.2.1<(y.1.length:Int)) then y.2.1≤(4611686018427387903:Int)∧(0:Int)≤y.2.2.1∧x4<y.1.length∧x4<y.1.length∧(0:Int)≤y.2.2.1∧x4<x9.length∧x4<x9.length∧x4<x9.length∧(0:Int)≤x10∧x6≤(4611686018427387904:Int)∧x6≤(4611686018427387903:Int)∧(0:Int)≤y.2.2.1∧x4<x8.length∧x4<x8.length∧(0:Int)≤y.2.2.1∧x4<x7.length∧x4<x7.length∧(0:Int)≤y.2.2.1∧x4<x5.length∧x4<x5.length∧(0:Int)≤y.2.2.1∧x4<x3.length∧x4<x3.length∧(0:Int)≤y.2.2.1∧x4<x2.length∧x4<x2.length∧(0:Int)≤y.2.2.1∧x4<x1.length∧x4<x1.length∧x11≤(4611686018427387903:Int)∧(0:Int)≤y.2.2.1∧x4<x0.length∧x4<x0.length∧Zi71_2 a k (List.modify x0 x4 fun(x:DTask)=>{F:=x.F,Undo:=x.Undo,State:=x.State,Tries:=x.Tries,Due:=x.Due,V:={K:=x.V.K,N:=x.V.N,S:=markText x11:DVal}:DTask},IntKind.wrap IntKind.i64 (x11+(1:Int)),IntKind.wrap IntKind.i64 (y.2.2.1+(1:Int)),())∧Zm71_2 a k (List.modify x0 x4 fun(x:DTask)=>{F:=x.F,Undo:=x.Undo,State:=x.State,Tries:=x.Tries,Due:=x.Due,V:={K:=x.V.K,N:=x.V.N,S:=markText x11:DVal}:DTask},IntKind.wrap IntKind.i64 (x11+(1:Int)),IntKind.wrap IntKind.i64 (y.2.2.1+(1:Int)),())<Zm71_2 a k y else asD [VI y.2.1]=asD [VI (k+(↑(cntTaskS a):Int))]∧asD [VL .eTask y.1]=asD [VL .eTask (markTaskS a k)]) (by kernel_rfl)
 dsimp only
 refine⟨⟨by omega,by omega,by simp,by simp[ctS]⟩,?_⟩
 rintro⟨row,kk,i,⟨⟩⟩ ⟨h1,h2,rfl,rfl⟩
 simp only
 have hl:=mk_rl markTask cntTask a k h1 h2
 refine if_cond (fun hc=> ?_) (fun hc=> ?_)
 ·have hc:i<a.length:=by have hc:=of_decide_eq_true hc;omega
  have hct:=ctS_take cntTask a zTask h1 hc
  have hle:=ctS_take_le cntTask a (i+1).toNat
  have hg:=mk_getD _ a zTask (mk_tl markTask cntTask a k h1 h2) h1 hc
  have hM:=fun F hF=>mkS_mod markTask cntTask a zTask k (i:=i) F h1 hc hF
  have hq:(cntTaskS a:Int)=ctS cntTask a:=rfl
  generalize List.getD a i.toNat zTask=x at*
  generalize hkk:k+(ctS cntTask (a.take i.toNat):Int)=kk at*
  generalize List.take i.toNat (mkS markTask cntTask a k)++List.drop i.toNat a=R at*
  simp only[cntTask] at hct
  simp(disch:=first|omega|(simp only[zbf];omega)) only[zbf,wrap_i64,getD_modify,modify_modify,hg,hl]
  repeat' (first|refine And.intro (by omega) ?_|fail)
  exact⟨⟨by omega,by omega,hM _ (by first|rfl|(simp only[markTask,markBool];rw[zbp (by omega)];rfl)),by omega⟩,by simp only[Zm71_2];omega⟩
 ·have hc:a.length≤i:=by have hc:=of_decide_eq_false hc;omega
  rw[mk_done markTask cntTask a k hc,ct_done cntTask a hc]
  exact⟨rfl,rfl⟩
def Zh71:HH:=⟨_,Zo71⟩
def Zk113:Con UU where
 α:=DUndo×Int
 md:=[.ro,.ro]
 of:=oC (oA .lUndo) (o1 oI)
 ds:=fun x=>[dA .lUndo x.1,dI x.2]
 pre:=fun(a,left)=>[0≤left]
 res:=fun(a,left)=>⟨[dI (szr left (sizeUndo a))],true,[]⟩
 law:=lC (lA .lUndo) (l1 lI)
def Za113:Zk113.α→Nat→Option (Ann UU):=fun(a,left)=>annL []
def Zu113:=us [Zh183]
theorem Zo113:Holds EE (113,Zk113):=by
 refine holds_of EE_ok func113 Zk113 (by kernel_rfl) Zu113 (us_ok _) Za113 (fun x hp hb=> ?_)
 obtain⟨a,left⟩:=x
 have hz0:=bd_lUndo (x:=a) (hb _ m0)
 have hl_a_Key:=hz0.1
 have hl_a_F_Kind:=hz0.2.1
 have hl_a_F_Fields:=hz0.2.2
 have hl_left:=bdI (n:=left) (hb _ m1)
 have hp0:0≤left:=hp _ m0
 clear hp hb
 apply @ve _ (let x0:Int:=IntKind.wrap IntKind.i64 (left-(↑(ByteArray.size a.Key):Int));bif decide (x0<(0:Int)) then Li (-1:Int) (szr left (sizeUndo a)) else(0:Int)≤x0∧bif decide (szr x0 (sizeFact a.F)<(0:Int)) then Li (-1:Int) (szr left (sizeUndo a)) else Li (szr x0 (sizeFact a.F)) (szr left (sizeUndo a))) (by kernel_rfl)
 dsimp only
 rw[wrap_i64 (by omega) (by omega)]
 refine if_cond (fun h=>Lf_i (szr_bad' ?_)) (fun h=> ?_)
 ·have h:=of_decide_eq_true h;simp only[sizeUndo];omega
 have h0:=of_decide_eq_false h
 refine⟨by omega,if_cond (fun h=>Lf_i (szr_bad' ?_)) (fun h=> ?_)⟩
 ·have h:=szr_neg h;simp only[sizeUndo];omega
 obtain⟨e1,h1⟩:=szr_pos h
 rw[e1]
 exact Lf_i (by rw[←szr_ok' (by simp only[sizeUndo];omega)];simp only[sizeUndo];try omega)
def Zh113:HH:=⟨_,Zo113⟩
def Zk128:Con UU where
 α:=DUndo
 md:=[.ro]
 of:=o1 (oA .lUndo)
 ds:=fun x=>[dA .lUndo x]
 pre:=fun a=>[sizeUndo a≤4294967296]
 res:=fun a=>⟨[dA .eUndo a],true,[]⟩
 law:=l1 (lA .lUndo)
def Za128:Zk128.α→Nat→Option (Ann UU):=fun a=>annL []
def Zu128:=us [Zh198]
theorem Zo128:Holds EE (128,Zk128):=by
 refine holds_of EE_ok func128 Zk128 (by kernel_rfl) Zu128 (us_ok _) Za128 (fun(a:DUndo) hp hb=> ?_)
 have hz0:=bd_lUndo (x:=a) (hb _ m0)
 have hl_a_Key:=hz0.1
 have hl_a_F_Kind:=hz0.2.1
 have hl_a_F_Fields:=hz0.2.2
 have hp0:sizeUndo a≤4294967296:=hp _ m0
 clear hp hb
 apply @ve _ (sizeFact a.F≤(4294967296:Nat)∧Lf [DV.agg [CS a.Key,CS a.F.Kind,CL .eVal a.F.Fields]] [DV.agg [CS a.Key,CS a.F.Kind,CL .eVal a.F.Fields]]) (by kernel_rfl)
 simp only[sizeUndo] at hp0
 repeat' (first|exact Lf_rfl _|(refine And.intro (by omega) ?_))
def Zh128:HH:=⟨_,Zo128⟩
def Zk145:Con UU where
 α:=DUndo×DUndo
 md:=[.ro,.ro]
 of:=oC (oA .eUndo) (o1 (oA .eUndo))
 ds:=fun x=>[dA .eUndo x.1,dA .eUndo x.2]
 pre:=fun _=>[]
 res:=fun(a,b)=>⟨[dO (decide (a=b))],true,[]⟩
 law:=lC (lA .eUndo) (l1 (lA .eUndo))
def Za145:Zk145.α→Nat→Option (Ann UU):=fun(a,b)=>annL []
def Zu145:=us [Zh218]
theorem Zo145:Holds EE (145,Zk145):=by
 refine holds_of EE_ok func145 Zk145 (by kernel_rfl) Zu145 (us_ok _) Za145 (fun x hp hb=> ?_)
 obtain⟨a,b⟩:=x
 have hz0:=bd_eUndo (x:=a) (hb _ m0)
 have hl_a_Key:=hz0.1
 have hl_a_F_Kind:=hz0.2.1
 have hl_a_F_Fields:=hz0.2.2
 have hz1:=bd_eUndo (x:=b) (hb _ m1)
 have hl_b_Key:=hz1.1
 have hl_b_F_Kind:=hz1.2.1
 have hl_b_F_Fields:=hz1.2.2
 clear hp hb
 apply @ve _ (bif !ByteArray.toList a.Key==ByteArray.toList b.Key then Lb false (decide (a=b)) else bif !decide (a.F=b.F) then Lb false (decide (a=b)) else Lb true (decide (a=b))) (by kernel_rfl)
 obtain⟨aKey,aF⟩:=a
 obtain⟨bKey,bF⟩:=b
 repeat' (apply if_cond<;>intro _)
 all_goals (first|apply Lf_t|apply Lf_f)<;>simp_all
def Zh145:HH:=⟨_,Zo145⟩
def Zk49:Con UU where
 α:=(List DUndo)×Int
 md:=[.ro,.ro]
 of:=oC (oL .lUndo) (o1 oI)
 ds:=fun x=>[dL .lUndo x.1,dI x.2]
 pre:=fun(a,left)=>[0≤left]
 res:=fun(a,left)=>⟨[dI (szr left (sizeUndoS a))],true,[]⟩
 law:=lC (lL .lUndo) (l1 lI)
def Zi49_5(a:(List DUndo))(left:Int):Int×Int×Unit→Prop:=szI sizeUndo a (sizeUndoS a) left
def Zm49_5(a:(List DUndo))(left:Int):Int×Int×Unit→Nat:=rM2 a
def Za49:Zk49.α→Nat→Option (Ann UU):=fun(a,left)=>annL [(5,annOf [.slot 1 (1,1024) (.lit (.int .i64)),.slot 5 (5,1024) (.lit (.int .i64))] (fun _=>Zi49_5 a left) (Zm49_5 a left))]
def Zu49:=us [Zh113]
theorem Zo49:Holds EE (49,Zk49):=by
 refine holds_of EE_ok func49 Zk49 (by kernel_rfl) Zu49 (us_ok _) Za49 (fun x hp hb=> ?_)
 obtain⟨a,left⟩:=x
 have hl_a:a.length≤9223372036854775807:=bdL (hb _ m0)
 have hl_left:=bdI (n:=left) (hb _ m1)
 have hp0:0≤left:=hp _ m0
 clear hp hb
 apply @ve _ (szV sizeUndo zUndo a (sizeUndoS a) left) (by kernel_rfl)
 exact szV_ok rfl hp0 hl_left hl_a
def Zh49:HH:=⟨_,Zo49⟩
def Zk57:Con UU where
 α:=(List DUndo)
 md:=[.ro]
 of:=o1 (oL .lUndo)
 ds:=fun x=>[dL .lUndo x]
 pre:=fun a=>[sizeUndoS a≤4294967296]
 res:=fun a=>⟨[dL .eUndo a],true,[]⟩
 law:=l1 (lL .lUndo)
def Zi57_3(a:(List DUndo)):List DUndo×Int×Unit→Prop:=toI zUndo a
def Zm57_3(a:(List DUndo)):List DUndo×Int×Unit→Nat:=rM2 a
def Za57:Zk57.α→Nat→Option (Ann UU):=fun a=>annL [(3,annOf [.slot 3 (3,1024) (.own .eUndo true),.slot 4 (4,1024) (.lit (.int .i64))] (fun _=>Zi57_3 a) (Zm57_3 a))]
def Zu57:=us [Zh128]
theorem Zo57:Holds EE (57,Zk57):=by
 refine holds_of EE_ok func57 Zk57 (by kernel_rfl) Zu57 (us_ok _) Za57 (fun(a:(List DUndo)) hp hb=> ?_)
 have hl_a:a.length≤9223372036854775807:=bdL (hb _ m0)
 have hp0:sizeUndoS a≤4294967296:=hp _ m0
 clear hp hb
 apply @ve _ (toV sizeUndo zUndo a fun y=>Lf [.one (.sl .eUndo y)] [.one (.sl .eUndo a)]) (by kernel_rfl)
 exact toV_ok hp0 (Lf_rfl _)
def Zh57:HH:=⟨_,Zo57⟩
def Zk67:Con UU where
 α:=(List DUndo)×(List DUndo)
 md:=[.ro,.ro]
 of:=oC (oL .eUndo) (o1 (oL .eUndo))
 ds:=fun x=>[dL .eUndo x.1,dL .eUndo x.2]
 pre:=fun _=>[]
 res:=fun(a,b)=>⟨[dO (decide (a=b))],true,[]⟩
 law:=lC (lL .eUndo) (l1 (lL .eUndo))
def Zi67_4(a:(List DUndo))(b:(List DUndo)):Int×Unit→Prop:=eqI a b
def Zm67_4(a:(List DUndo))(b:(List DUndo)):Int×Unit→Nat:=rM1 a
def Za67:Zk67.α→Nat→Option (Ann UU):=fun(a,b)=>annL [(4,annOf [.slot 5 (5,1024) (.lit (.int .i64))] (fun _=>Zi67_4 a b) (Zm67_4 a b))]
def Zu67:=us [Zh145]
theorem Zo67:Holds EE (67,Zk67):=by
 refine holds_of EE_ok func67 Zk67 (by kernel_rfl) Zu67 (us_ok _) Za67 (fun x hp hb=> ?_)
 obtain⟨a,b⟩:=x
 have hl_a:a.length≤9223372036854775807:=bdL (hb _ m0)
 have hl_b:b.length≤9223372036854775807:=bdL (hb _ m1)
 clear hp hb
 apply @ve _ (eqV zUndo a b) (by kernel_rfl)
 exact eqV_ok hl_a
def Zh67:HH:=⟨_,Zo67⟩
def Zk73:Con UU where
 α:=(List DUndo)×Int
 md:=[.wr,.ro]
 of:=oC (oL .eUndo) (o1 oI)
 ds:=fun x=>[dL .eUndo x.1,dI x.2]
 pre:=fun(a,k)=>[0≤k,k+cntUndoS a≤4611686018427387904]
 res:=fun(a,k)=>⟨[dI (k+cntUndoS a)],true,[dL .eUndo (markUndoS a k)]⟩
 law:=lC (lL .eUndo) (l1 lI)
def Zi73_2(a:(List DUndo))(k:Int):List DUndo×Int×Int×Unit→Prop:=fun(row,kk,i,_)=>0≤i∧i≤a.length∧row=(mkS markUndo cntUndo a k).take i.toNat++a.drop i.toNat∧kk=k+ctS cntUndo (a.take i.toNat)
def Zm73_2(a:(List DUndo))(k:Int):List DUndo×Int×Int×Unit→Nat:=fun(row,kk,i,_)=>a.length-i.toNat
def Za73:Zk73.α→Nat→Option (Ann UU):=fun(a,k)=>annL [(2,annOf [.slot 0 (2000000,0) (.own .eUndo true),.slot 1 (1,1024) (.lit (.int .i64)),.slot 5 (5,1024) (.lit (.int .i64))] (fun _=>Zi73_2 a k) (Zm73_2 a k))]
def Zu73:=us [Zh146,Zh151]
theorem Zo73:Holds EE (73,Zk73):=by
 refine holds_of EE_ok func73 Zk73 (by kernel_rfl) Zu73 (us_ok _) Za73 (fun x hp hb=> ?_)
 obtain⟨a,k⟩:=x
 have hl_a:a.length≤9223372036854775807:=bdL (hb _ m0)
 have hl_k:=bdI (n:=k) (hb _ m1)
 have hp0:0≤k:=hp _ m0
 have hp1:k+cntUndoS a≤4611686018427387904:=hp _ m1
 clear hp hb
 apply @ve _ (Zi73_2 a k (a,k,(0:Int),())∧∀(y:List DUndo×Int×Int×PUnit),let x1:Nat:=y.2.2.1.toNat;let x3:Int:=IntKind.wrap IntKind.i64 (y.2.1+(1:Int));let x4:List DUndo:=List.modify y.1 x1 fun(x:DUndo)=>{Key:=markText y.2.1,F:=x.F:DUndo};let x0:List DUndo:=List.modify x4 x1 fun(x:DUndo)=>{Key:=x.Key,F:={Kind:=markText x3,Fields:=x.F.Fields:DFact}:DUndo};let x2:Int:=IntKind.wrap IntKind.i64 (x3+(1:Int));let x5:Int:=x2+(↑(cntValS (List.getD x0 x1 zUndo).F.Fields):Int);Zi73_2 a k y→bif decide (y.2.2.1<(y.1.length:Int)) then y.2.1≤(4611686018427387903:Int)∧(0:Int)≤y.2.2.1∧x1<y.1.length∧x1<y.1.length∧x3≤(4611686018427387903:Int)∧(0:Int)≤y.2.2.1∧x1<x4.length∧x1<x4.length∧(0:Int)≤y.2.2.1∧x1<x0.length∧x1<x0.length∧x1<x0.length∧(0:Int)≤x2∧x5≤(4611686018427387904:Int)∧Zi73_2 a k (List.modify x0 x1 fun(x:DUndo)=>{Key:=x.Key,F:={Kind:=x.F.Kind,Fields:=markValS (List.getD x0 x1 zUndo).F.Fields x2:DFact}:DUndo},x5,IntKind.wrap IntKind.i64 (y.2.2.1+(1:Int)),())∧Zm73_2 a k (List.modify x0 x1 fun(x:DUndo)=>{Key:=x.Key,F:={Kind:=x.F.Kind,Fields:=markValS (List.getD x0 x1 zUndo).F.Fields x2:DFact}:DUndo},x5,IntKind.wrap IntKind.i64 (y.2.2.1+(1:Int)),())<Zm73_2 a k y else asD [VI y.2.1]=asD [VI (k+(↑(cntUndoS a):Int))]∧asD [VL .eUndo y.1]=asD [VL .eUndo (markUndoS a k)]) (by kernel_rfl)
 dsimp only
 refine⟨⟨by omega,by omega,by simp,by simp[ctS]⟩,?_⟩
 rintro⟨row,kk,i,⟨⟩⟩ ⟨h1,h2,rfl,rfl⟩
 simp only
 have hl:=mk_rl markUndo cntUndo a k h1 h2
 refine if_cond (fun hc=> ?_) (fun hc=> ?_)
 ·have hc:i<a.length:=by have hc:=of_decide_eq_true hc;omega
  have hct:=ctS_take cntUndo a zUndo h1 hc
  have hle:=ctS_take_le cntUndo a (i+1).toNat
  have hg:=mk_getD _ a zUndo (mk_tl markUndo cntUndo a k h1 h2) h1 hc
  have hM:=fun F hF=>mkS_mod markUndo cntUndo a zUndo k (i:=i) F h1 hc hF
  have hq:(cntUndoS a:Int)=ctS cntUndo a:=rfl
  generalize List.getD a i.toNat zUndo=x at*
  generalize hkk:k+(ctS cntUndo (a.take i.toNat):Int)=kk at*
  generalize List.take i.toNat (mkS markUndo cntUndo a k)++List.drop i.toNat a=R at*
  simp only[cntUndo] at hct
  simp(disch:=first|omega|(simp only[zbf];omega)) only[zbf,wrap_i64,getD_modify,modify_modify,hg,hl]
  repeat' (first|refine And.intro (by omega) ?_|fail)
  exact⟨⟨by omega,by omega,hM _ (by first|rfl|(simp only[markUndo,markBool];rw[zbp (by omega)];rfl)),by omega⟩,by simp only[Zm73_2];omega⟩
 ·have hc:a.length≤i:=by have hc:=of_decide_eq_false hc;omega
  rw[mk_done markUndo cntUndo a k hc,ct_done cntUndo a hc]
  exact⟨rfl,rfl⟩
def Zh73:HH:=⟨_,Zo73⟩
def allI(n:Nat)(p:Nat→Bool):Bool:=(List.range n).all p
theorem allI_true{n:Nat}{p:Nat→Bool}(h:∀j,j<n→p j=true):allI n p=true:=by simpa[allI] using h
theorem allI_false{n:Nat}{p:Nat→Bool}{j:Nat}(h:j<n)(hj:p j=false):allI n p=false:=by
 simp only[allI,List.all_eq_false,zay]
 exact⟨j,h,by simp[hj]⟩
theorem upto_step{i:Int}{p:Nat→Bool}(h0:0≤i)(h:∀j:Nat,(j:Int)<i→p j=true)(hi:p i.toNat=true):∀j:Nat,(j:Int)<i+1→p j=true:=by
 intro j hj
 by_cases hji:(j:Int)<i
 ·exact h j hji
 ·have:j=i.toNat:=by omega
  subst this;exact hi
def timerOk(x:DTimer):Bool:=decide (0≤x.At∧x.At≤1000000000)&&factOk x.F
def timerAt(l:List DTimer)(i:Nat):Bool:=timerOk (List.getD l i zTimer)&&(decide (i=0)||decide ((List.getD l (i-1) zTimer).At≤(List.getD l i zTimer).At))
def timersOk(l:List DTimer):Bool:=decide (l.length≤30)&&allI l.length (timerAt l)
def Zk132:Con UU where
 α:=Int
 md:=[.ro]
 of:=o1 oI
 ds:=fun x=>[dI x]
 pre:=fun _=>[]
 res:=fun n=>⟨[dO (decide (0≤n∧n≤1000000000))],true,[]⟩
 law:=l1 lI
def Za132:Zk132.α→Nat→Option (Ann UU):=fun n=>annL []
def Zu132:=us [Zh34]
theorem Zo132:Holds EE (132,Zk132):=by
 refine holds_of EE_ok func132 Zk132 (by kernel_rfl) Zu132 (us_ok _) Za132 (fun(n:Int) hp hb=> ?_)
 have hl_n:=bdI (n:=n) (hb _ m0)
 clear hp hb
 apply @ve _ (Lb (decide ((0:Int)≤n∧n≤(1000000000:Int))) (decide ((0:Int)≤n∧n≤(1000000000:Int)))) (by kernel_rfl)
 exact Lf_rfl _
def Zh132:HH:=⟨_,Zo132⟩
def Zk202:Con UU where
 α:=DTimer
 md:=[.ro]
 of:=o1 (oA .eTimer)
 ds:=fun x=>[dA .eTimer x]
 pre:=fun _=>[]
 res:=fun x=>⟨[dO (timerOk x)],true,[]⟩
 law:=l1 (lA .eTimer)
def Za202:Zk202.α→Nat→Option (Ann UU):=fun x=>annL []
def Zu202:=us [Zh132,Zh42]
theorem Zo202:Holds EE (202,Zk202):=by
 refine holds_of EE_ok func202 Zk202 (by kernel_rfl) Zu202 (us_ok _) Za202 (fun(x:DTimer) hp hb=> ?_)
 have hz0:=bd_eTimer (x:=x) (hb _ m0)
 have hl_x_F_Kind:=hz0.1
 have hl_x_F_Fields:=hz0.2
 clear hp hb
 apply @ve _ (bif decide ((0:Int)≤x.At∧x.At≤(1000000000:Int)) then Lb (factOk x.F) (timerOk x) else Lb false (timerOk x)) (by kernel_rfl)
 simp only[timerOk]
 refine if_cond (fun h=>Lf_b ?_) (fun h=>Lf_b ?_)<;>grind
def Zh202:HH:=⟨_,Zo202⟩
def Zk187:Con UU where
 α:=DTimer
 md:=[.ro]
 of:=o1 (oA .eTimer)
 ds:=fun x=>[dA .eTimer x]
 pre:=fun _=>[]
 res:=fun x=>⟨[dO (timerOk x)],true,[]⟩
 law:=l1 (lA .eTimer)
def Za187:Zk187.α→Nat→Option (Ann UU):=fun x=>annL []
def Zu187:=us [Zh104,Zh175]
theorem Zo187:Holds EE (187,Zk187):=by
 refine holds_of EE_ok func187 Zk187 (by kernel_rfl) Zu187 (us_ok _) Za187 (fun(x:DTimer) hp hb=> ?_)
 have hz0:=bd_eTimer (x:=x) (hb _ m0)
 have hl_x_F_Kind:=hz0.1
 have hl_x_F_Fields:=hz0.2
 clear hp hb
 apply @ve _ (bif decide ((0:Int)≤x.At∧x.At≤(1000000000:Int)) then Lb (factOk x.F) (timerOk x) else Lb false (timerOk x)) (by kernel_rfl)
 simp only[timerOk]
 refine if_cond (fun h=>Lf_b ?_) (fun h=>Lf_b ?_)<;>grind
def Zh187:HH:=⟨_,Zo187⟩
def Zk130:Con UU where
 α:=(List DTimer)
 md:=[.ro]
 of:=o1 (oL .eTimer)
 ds:=fun x=>[dL .eTimer x]
 pre:=fun _=>[]
 res:=fun l=>⟨[dO (timersOk l)],true,[]⟩
 law:=l1 (lL .eTimer)
def Zi130_4(l:(List DTimer)):Int×Unit→Prop:=fun(i,_)=>0≤i∧i≤l.length∧l.length≤30∧∀j:Nat,(j:Int)<i→timerAt l j=true
def Zm130_4(l:(List DTimer)):Int×Unit→Nat:=fun(i,_)=>l.length-i.toNat
def Za130:Zk130.α→Nat→Option (Ann UU):=fun l=>annL [(4,annOf [.slot 10 (10,1024) (.lit (.int .i64))] (fun _=>Zi130_4 l) (Zm130_4 l))]
def Zu130:=us [Zh202]
theorem Zo130:Holds EE (130,Zk130):=by
 refine holds_of EE_ok func130 Zk130 (by kernel_rfl) Zu130 (us_ok _) Za130 (fun(l:(List DTimer)) hp hb=> ?_)
 have hl_l:l.length≤9223372036854775807:=bdL (hb _ m0)
 clear hp hb
 apply @ve _ (let x0:Int:=(l.length:Int);bif decide (x0>(30:Int)) then Lb false (timersOk l) else Zi130_4 l ((0:Int),())∧∀(y:Int×PUnit),let x2:Nat:=Int.toNat (IntKind.wrap IntKind.i64 (y.1-(1:Int)));let x1:Int:=(List.getD l x2 zTimer).At;Zi130_4 l y→bif decide (y.1<x0) then(0:Int)≤y.1∧y.1.toNat<l.length∧bif !timerOk (List.getD l y.1.toNat zTimer) then Lb false (timersOk l) else bif decide (y.1>(0:Int)) then(0:Int)≤IntKind.wrap IntKind.i64 (y.1-(1:Int))∧x2<l.length∧bif decide (x1>(List.getD l y.1.toNat zTimer).At) then Lb false (timersOk l) else Zi130_4 l (IntKind.wrap IntKind.i64 (y.1+(1:Int)),())∧Zm130_4 l (IntKind.wrap IntKind.i64 (y.1+(1:Int)),())<Zm130_4 l y else Zi130_4 l (IntKind.wrap IntKind.i64 (y.1+(1:Int)),())∧Zm130_4 l (IntKind.wrap IntKind.i64 (y.1+(1:Int)),())<Zm130_4 l y else Lb true (timersOk l)) (by kernel_rfl)
 dsimp only
 refine if_cond (fun h=>Lf_ff ?_) (fun h=>⟨⟨by omega,by omega,by have h:=of_decide_eq_false h;omega,by intro j hj;omega⟩,?_⟩)
 ·have h:=of_decide_eq_true h;simp only[timersOk];rw[decide_eq_false (by omega)];rfl
 rintro⟨i,⟨⟩⟩ ⟨h1,h2,h3,hR⟩
 simp only
 refine if_cond (fun hc=> ?_) (fun hc=> ?_)
 ·have hc:=of_decide_eq_true hc
  have hN:timerAt l i.toNat=false→timersOk l=false:=fun h=>by
   have hf:allI l.length (timerAt l)=false:=allI_false (j:=i.toNat) (by omega) h
   simp only[timersOk,hf];simp
  simp(disch:=omega) only[wrap_i64]
  have e1:(i-1).toNat=i.toNat-1:=by omega
  simp only[e1]
  refine⟨by omega,by omega,if_cond (fun h=>Lf_ff (hN ?_)) (fun h=>if_cond (fun h'=>⟨by have:=of_decide_eq_true h';omega,by have:=of_decide_eq_true h';omega,if_cond (fun h''=>Lf_ff (hN ?_)) (fun h''=>⟨⟨by omega,by omega,h3,upto_step h1 hR ?_⟩,?_⟩)⟩) (fun h'=>⟨⟨by omega,by omega,h3,upto_step h1 hR ?_⟩,?_⟩))⟩
  all_goals (first|(simp only[Zm130_4];omega)|(simp only[timerAt];grind))
 ·have hc:=of_decide_eq_false hc
  have hA:allI l.length (timerAt l)=true:=allI_true fun j hj=>hR j (by omega)
  refine Lf_b ?_
  simp only[timersOk,hA];grind
def Zh130:HH:=⟨_,Zo130⟩
def Zk116:Con UU where
 α:=(List DTimer)
 md:=[.ro]
 of:=o1 (oL .eTimer)
 ds:=fun x=>[dL .eTimer x]
 pre:=fun _=>[]
 res:=fun l=>⟨[dO (timersOk l)],true,[]⟩
 law:=l1 (lL .eTimer)
def Zi116_2(l:(List DTimer)):Int×Unit→Prop:=fun(i,_)=>0≤i∧i≤l.length∧∀j:Nat,(j:Int)<i→timerAt l j=true
def Zm116_2(l:(List DTimer)):Int×Unit→Nat:=fun(i,_)=>l.length-i.toNat
def Za116:Zk116.α→Nat→Option (Ann UU):=fun l=>annL [(2,annOf [.slot 3 (3,1024) (.lit (.int .i64))] (fun _=>Zi116_2 l) (Zm116_2 l))]
def Zu116:=us [Zh187]
theorem Zo116:Holds EE (116,Zk116):=by
 refine holds_of EE_ok func116 Zk116 (by kernel_rfl) Zu116 (us_ok _) Za116 (fun(l:(List DTimer)) hp hb=> ?_)
 have hl_l:l.length≤9223372036854775807:=bdL (hb _ m0)
 clear hp hb
 apply @ve _ (let x0:Int:=(l.length:Int);Zi116_2 l ((0:Int),())∧∀(y:Int×PUnit),let x2:Nat:=Int.toNat (IntKind.wrap IntKind.i64 (y.1-(1:Int)));let x1:Int:=(List.getD l x2 zTimer).At;Zi116_2 l y→bif decide (y.1<x0) then(0:Int)≤y.1∧y.1.toNat<l.length∧bif !timerOk (List.getD l y.1.toNat zTimer) then Lb false (timersOk l) else bif decide (y.1>(0:Int)) then(0:Int)≤IntKind.wrap IntKind.i64 (y.1-(1:Int))∧x2<l.length∧(0:Int)≤y.1∧y.1.toNat<l.length∧bif decide (x1>(List.getD l y.1.toNat zTimer).At) then Lb false (timersOk l) else Zi116_2 l (IntKind.wrap IntKind.i64 (y.1+(1:Int)),())∧Zm116_2 l (IntKind.wrap IntKind.i64 (y.1+(1:Int)),())<Zm116_2 l y else Zi116_2 l (IntKind.wrap IntKind.i64 (y.1+(1:Int)),())∧Zm116_2 l (IntKind.wrap IntKind.i64 (y.1+(1:Int)),())<Zm116_2 l y else Lb (decide (x0≤(30:Int))) (timersOk l)) (by kernel_rfl)
 dsimp only
 refine⟨⟨by omega,by omega,by intro j hj;omega⟩,?_⟩
 rintro⟨i,⟨⟩⟩ ⟨h1,h2,hR⟩
 simp only
 refine if_cond (fun hc=> ?_) (fun hc=> ?_)
 ·have hc:=of_decide_eq_true hc
  have hN:timerAt l i.toNat=false→timersOk l=false:=fun h=>by
   have hf:allI l.length (timerAt l)=false:=allI_false (j:=i.toNat) (by omega) h
   simp only[timersOk,hf];simp
  simp(disch:=omega) only[wrap_i64]
  have e1:(i-1).toNat=i.toNat-1:=by omega
  simp only[e1]
  refine⟨by omega,by omega,if_cond (fun h=>Lf_ff (hN ?_)) (fun h=>if_cond (fun h'=>⟨by have:=of_decide_eq_true h';omega,by have:=of_decide_eq_true h';omega,by omega,by omega,if_cond (fun h''=>Lf_ff (hN ?_)) (fun h''=>⟨⟨by omega,by omega,upto_step h1 hR ?_⟩,?_⟩)⟩) (fun h'=>⟨⟨by omega,by omega,upto_step h1 hR ?_⟩,?_⟩))⟩
  all_goals (first|(simp only[Zm116_2];omega)|(simp only[timerAt];grind))
 ·have hc:=of_decide_eq_false hc
  have hA:allI l.length (timerAt l)=true:=allI_true fun j hj=>hR j (by omega)
  refine Lf_b ?_
  simp only[timersOk,hA];grind
def Zh116:HH:=⟨_,Zo116⟩
def idxI(n:Nat)(p:Nat→Bool):Int:=match(List.range n).find? p with|some i=>i|none=> -1
def anyI(n:Nat)(p:Nat→Bool):Bool:=(List.range n).any p
theorem idxI_found{n i:Nat}{p:Nat→Bool}(h:i<n)(hp:p i=true)(hj:∀j,j<i→p j=false):idxI n p=i:=by
 have:(List.range n).find? p=some i:=by
  rw[List.find?_range_eq_some]
  exact⟨hp,zay.2 h,fun j hj'=>by simp[hj j hj']⟩
 simp[idxI,this]
theorem idxI_none{n:Nat}{p:Nat→Bool}(hj:∀j,j<n→p j=false):idxI n p= -1:=by
 have:(List.range n).find? p=none:=by
  rw[zeb]
  intro j hj'
  simp[hj j (zay.1 hj')]
 simp[idxI,this]
theorem idxI_cases(n:Nat)(p:Nat→Bool):(idxI n p= -1∧∀j,j<n→p j=false)∨∃i,i<n∧idxI n p=(i:Int)∧p i=true∧∀j,j<i→p j=false:=by
 cases h:(List.range n).find? p with
 |none=>
  refine .inl ⟨by simp[idxI,h],fun j hj=> ?_⟩
  have:=zeb.1 h j (zay.2 hj)
  simpa using this
 |some i=>
  rw[List.find?_range_eq_some] at h
  obtain⟨h1,h2,h3⟩:=h
  exact .inr ⟨i,zay.1 h2,idxI_found (zay.1 h2) h1 (fun j hj=>by simpa using h3 j hj),h1,fun j hj=>by simpa using h3 j hj⟩
theorem idxI_congr{n:Nat}{p q:Nat→Bool}(h:∀j,j<n→p j=q j):idxI n p=idxI n q:=by
 rcases idxI_cases n q with⟨h1,h2⟩|⟨i,h1,h2,h3,h4⟩
 ·rw[h1,idxI_none (fun j hj=>by rw[h j hj,h2 j hj])]
 ·rw[h2,idxI_found h1 (by rw[h i h1,h3]) (fun j hj=>by rw[h j (by omega),h4 j hj])]
theorem anyI_true{n j:Nat}{p:Nat→Bool}(h:j<n)(hp:p j=true):anyI n p=true:=by
 simp only[anyI,zbb,zay]
 exact⟨j,h,hp⟩
theorem anyI_false{n:Nat}{p:Nat→Bool}(h:∀j,j<n→p j=false):anyI n p=false:=by
 simp only[anyI,List.any_eq_false,zay]
 exact fun j hj=>by simp[h j hj]
theorem anyI_iff{n:Nat}{p:Nat→Bool}:anyI n p=true↔∃j,j<n∧p j=true:=by
 simp only[anyI,zbb,zay]
theorem anyI_not{n:Nat}{p:Nat→Bool}:anyI n p=false↔∀j,j<n→p j=false:=by
 simp only[anyI,List.any_eq_false,zay,zbj]
theorem anyI_congr{n:Nat}{p q:Nat→Bool}(h:∀j,j<n→p j=q j):anyI n p=anyI n q:=by
 rw[zcm,anyI_iff,anyI_iff]
 exact⟨fun⟨j,h1,h2⟩=>⟨j,h1,by rw[←h j h1];exact h2⟩,fun⟨j,h1,h2⟩=>⟨j,h1,by rw[h j h1];exact h2⟩⟩
theorem idxI_ge{n:Nat}{p:Nat→Bool}:decide (0≤idxI n p)=anyI n p:=by
 rcases idxI_cases n p with⟨h1,h2⟩|⟨i,h1,h2,h3,h4⟩
 ·rw[h1,anyI_false h2];rfl
 ·rw[h2,anyI_true h1 h3];simp
theorem getD_take{α:Type}(l:List α)(z:α){i j:Nat}(h:j<i):List.getD (l.take i) j z=List.getD l j z:=by
 rw[zac,zac,zan,if_pos h]
theorem closP_of{k:Con UU}{caps:List (DV UU)}{ds:List (DA UU)}{x:k.α}{v:Value}(h:k.of (ds.map DA.dv++caps)=some x)(hv:(k.res x).val=[.one (.lit v)])(hm:(k.res x).muts=[])
  (hl:k.md.length=ds.length+caps.length) (hp:∀p∈k.pre x,p):closP k caps ds=some v:=by
 unfold closP
 simp only[h,hv,hm]
 rw[if_pos ⟨hl,hp⟩]
theorem val_beq(a b:DVal):(a.K==b.K&&(a.N==b.N&&(ByteArray.toList a.S==ByteArray.toList b.S&&true)))=decide (a=b):=by
 obtain⟨K,N,S⟩:=a
 obtain⟨K',N',S'⟩:=b
 simp only[toList_beq,zdb]
 rw[zcm]
 simp only[zaf,beq_iff_eq,decide_eq_true_eq,DVal.mk.injEq]
theorem upto_no{i:Int}{p:Nat→Bool}(h0:0≤i)(h:∀j:Nat,(j:Int)<i→p j=false)(hi:p i.toNat=false):∀j:Nat,(j:Int)<i+1→p j=false:=by
 intro j hj
 by_cases hji:(j:Int)<i
 ·exact h j hji
 ·have:j=i.toNat:=by omega
  subst this;exact hi
def daUndo(x:DUndo):DA UU:=⟨true,[.lit (.string x.Key),.lit (.string x.F.Kind),.sl .eVal x.F.Fields]⟩
def undoAt(l:List DUndo)(i:Nat):Bool:=decide (1≤(List.getD l i zUndo).Key.size∧(List.getD l i zUndo).Key.size≤200)&&factOk (List.getD l i zUndo).F&& !(anyI i fun k=>decide ((List.getD l k zUndo).Key=(List.getD l i zUndo).Key))
def undosOk(l:List DUndo):Bool:=decide (l.length≤30)&&allI l.length (undoAt l)
def hasKey(l:List DUndo)(key:ByteArray):Bool:=anyI l.length fun k=>decide ((List.getD l k zUndo).Key=key)
def Zk294:Con UU where
 α:=(List DUndo)×(List (DA UU)→Option Value)
 md:=[.ro,.ro]
 of:=oC (oL .eUndo) (o1 oF)
 ds:=fun x=>[dL .eUndo x.1,dF x.2]
 pre:=fun(l,p)=>[∀j:Nat,j<l.length→p [daUndo (List.getD l j zUndo)]=some (.bool (boolOf (p [daUndo (List.getD l j zUndo)])))]
 res:=fun(l,p)=>⟨[dI (idxI l.length (fun j=>boolOf (p [daUndo (List.getD l j zUndo)])))],true,[]⟩
 law:=lC (lL .eUndo) (l1 lF)
def Zi294_2(l:(List DUndo))(p:(List (DA UU)→Option Value)):Int×Unit→Prop:=fun(i,_)=>0≤i∧i≤l.length∧∀j:Nat,(j:Int)<i→boolOf (p [daUndo (List.getD l j zUndo)])=false
def Zm294_2(l:(List DUndo))(p:(List (DA UU)→Option Value)):Int×Unit→Nat:=fun(i,_)=>l.length-i.toNat
def Za294:Zk294.α→Nat→Option (Ann UU):=fun(l,p)=>annL [(2,annOf [.slot 8 (8,1024) (.lit (.int .i64))] (fun _=>Zi294_2 l p) (Zm294_2 l p))]
def Zu294:List (FuncId×Con UU):=[]
theorem Zo294:Holds EE (294,Zk294):=by
 refine holds_of EE_ok func294 Zk294 (by kernel_rfl) Zu294 all_nil Za294 (fun x hp hb=> ?_)
 obtain⟨l,p⟩:=x
 have hl_l:l.length≤9223372036854775807:=bdL (hb _ m0)
 have hp0:∀j:Nat,j<l.length→p [daUndo (List.getD l j zUndo)]=some (.bool (boolOf (p [daUndo (List.getD l j zUndo)]))):=hp _ m0
 clear hp hb
 apply @ve _ (Zi294_2 l p ((0:Int),())∧∀(y:Int×PUnit),let x0:Bool:=boolOf (p [{agg:=true,cs:=[CS ((List.getD l y.1.toNat zUndo).Key),CS ((List.getD l y.1.toNat zUndo).F.Kind),CL .eVal (List.getD l y.1.toNat zUndo).F.Fields]:DA UU}]);Zi294_2 l p y→bif decide (y.1<(l.length:Int)) then(0:Int)≤y.1∧y.1.toNat<l.length∧p [{agg:=true,cs:=[CS ((List.getD l y.1.toNat zUndo).Key),CS ((List.getD l y.1.toNat zUndo).F.Kind),CL .eVal (List.getD l y.1.toNat zUndo).F.Fields]:DA UU}]=some (Value.bool x0)∧bif x0 then Li y.1 (idxI (l.length) fun(j:Nat)=>boolOf (p [daUndo (List.getD l j zUndo)])) else Zi294_2 l p (IntKind.wrap IntKind.i64 (y.1+(1:Int)),())∧Zm294_2 l p (IntKind.wrap IntKind.i64 (y.1+(1:Int)),())<Zm294_2 l p y else Li (-1:Int) (idxI (l.length) fun(j:Nat)=>boolOf (p [daUndo (List.getD l j zUndo)]))) (by kernel_rfl)
 dsimp only
 refine⟨⟨by omega,by omega,by intro j hj;omega⟩,?_⟩
 rintro⟨i,⟨⟩⟩ ⟨h1,h2,hR⟩
 simp only[daUndo] at*
 refine if_cond (fun hc=> ?_) (fun hc=> ?_)
 ·have hc:=of_decide_eq_true hc
  rw[wrap_i64 (by omega) (by omega)]
  refine⟨by omega,by omega,hp0 i.toNat (by omega),if_cond (fun h=>Lf_i ?_) (fun h=>⟨⟨by omega,by omega,upto_no (p:=fun j=>boolOf (p [daUndo (List.getD l j zUndo)])) h1 hR h⟩,by simp only[Zm294_2];omega⟩)⟩
  rw[idxI_found (i:=i.toNat) (by omega) h (fun j hj=>hR j (by omega))]
  omega
 ·have hc:=of_decide_eq_false hc
  exact Lf_i (idxI_none (fun j hj=>hR j (by omega))).symm
def Zh294:HH:=⟨_,Zo294⟩
def Zk264:Con UU where
 α:=(List DUndo)×(List (DA UU)→Option Value)
 md:=[.ro,.ro]
 of:=oC (oL .eUndo) (o1 oF)
 ds:=fun x=>[dL .eUndo x.1,dF x.2]
 pre:=fun(l,p)=>[∀j:Nat,j<l.length→p [daUndo (List.getD l j zUndo)]=some (.bool (boolOf (p [daUndo (List.getD l j zUndo)])))]
 res:=fun(l,p)=>⟨[dO (anyI l.length (fun j=>boolOf (p [daUndo (List.getD l j zUndo)])))],true,[]⟩
 law:=lC (lL .eUndo) (l1 lF)
def Za264:Zk264.α→Nat→Option (Ann UU):=fun(l,p)=>annL []
def Zu264:=us [Zh294]
theorem Zo264:Holds EE (264,Zk264):=by
 refine holds_of EE_ok func264 Zk264 (by kernel_rfl) Zu264 (us_ok _) Za264 (fun x hp hb=> ?_)
 obtain⟨l,p⟩:=x
 have hl_l:l.length≤9223372036854775807:=bdL (hb _ m0)
 have hp0:∀j:Nat,j<l.length→p [daUndo (List.getD l j zUndo)]=some (.bool (boolOf (p [daUndo (List.getD l j zUndo)]))):=hp _ m0
 clear hp hb
 apply @ve _ (let x0:Int:=idxI (l.length) fun(j:Nat)=>boolOf (p [daUndo (List.getD l j zUndo)]);(∀(j:Nat),j<l.length→p [daUndo (List.getD l j zUndo)]=some (Value.bool (boolOf (p [daUndo (List.getD l j zUndo)]))))∧Lb (decide (x0≥(0:Int))) (anyI (l.length) fun(j:Nat)=>boolOf (p [daUndo (List.getD l j zUndo)]))) (by kernel_rfl)
 dsimp only
 exact⟨hp0,Lf_b (by rw[←idxI_ge])⟩
def Zh264:HH:=⟨_,Zo264⟩
def Zk203:Con UU where
 α:=ByteArray
 md:=[.ro]
 of:=o1 oS
 ds:=fun x=>[dS x]
 pre:=fun _=>[]
 res:=fun s=>⟨[dO (decide (1≤s.size∧s.size≤200))],true,[]⟩
 law:=l1 lS
def Za203:Zk203.α→Nat→Option (Ann UU):=fun s=>annL []
def Zu203:=us [Zh34]
theorem Zo203:Holds EE (203,Zk203):=by
 refine holds_of EE_ok func203 Zk203 (by kernel_rfl) Zu203 (us_ok _) Za203 (fun(s:ByteArray) hp hb=> ?_)
 have hl_s:=bdS (s:=s) (hb _ m0)
 clear hp hb
 apply @ve _ (Lb (decide ((1:Int)≤(↑(ByteArray.size s):Int)∧(↑(ByteArray.size s):Int)≤(200:Int))) (decide ((1:Nat)≤ByteArray.size s∧ByteArray.size s≤(200:Nat)))) (by kernel_rfl)
 refine Lf_b ?_
 rw[decide_eq_decide];omega
def Zh203:HH:=⟨_,Zo203⟩
def Zk265:Con UU where
 α:=DUndo×ByteArray
 md:=[.ro,.ro]
 of:=fun|[.agg [.lit (.string a0),.lit (.string a1),.sl .eVal a2],.ptr [.lit (.string a3)]]=>some (⟨a0,⟨a1,a2⟩⟩,a3)|_=>none
 ds:=fun(x,c)=>[.agg [.lit (.string x.Key),.lit (.string x.F.Kind),.sl .eVal x.F.Fields],.ptr [.lit (.string c)]]
 pre:=fun(x,c)=>[]
 res:=fun(x,c)=>⟨[.one (.lit (.bool (decide (x.Key=c))))],true,[]⟩
 law:=by intro l x h;(try simp only at h);split at h<;>cases h;rfl
def Za265:Zk265.α→Nat→Option (Ann UU):=fun(x,c)=>annL []
def Zu265:List (FuncId×Con UU):=[]
theorem Zo265:Holds EE (265,Zk265):=by
 refine holds_of EE_ok func265 Zk265 (by kernel_rfl) Zu265 all_nil Za265 (fun x hp hb=> ?_)
 obtain⟨x,c⟩:=x
 have hb_x:BdDV (U:=UU) (.agg [.lit (.string x.Key),.lit (.string x.F.Kind),.sl .eVal x.F.Fields]):=hb _ (zab)
 have hl_x_Key:x.Key.size≤9223372036854775807:=Bd.str (hb_x _ (by simp))
 have hl_x_F_Kind:x.F.Kind.size≤9223372036854775807:=Bd.str (hb_x _ (by simp))
 have hl_x_F_Fields:x.F.Fields.length≤9223372036854775807:=Bd.len (U:=UU) (τ:=.eVal) (xs:=x.F.Fields) (hb_x _ (by simp))
 have hb_c:BdDV (U:=UU) (.ptr [.lit (.string c)]):=hb _ (zaa _ (zab))
 have hl_c:c.size≤9223372036854775807:=Bd.str (hb_c _ (by simp))
 clear hp hb
 apply @ve _ (Lb (ByteArray.toList x.Key==ByteArray.toList c) (decide (x.Key=c))) (by kernel_rfl)
 rw[toList_beq]
 exact Lf_rfl _
def Zh265:HH:=⟨_,Zo265⟩
def Zk204:Con UU where
 α:=(List DUndo)×ByteArray
 md:=[.ro,.ro]
 of:=oC (oL .eUndo) (o1 oS)
 ds:=fun x=>[dL .eUndo x.1,dS x.2]
 pre:=fun _=>[]
 res:=fun(l,key)=>⟨[dO (hasKey l key)],true,[]⟩
 law:=lC (lL .eUndo) (l1 lS)
def Za204:Zk204.α→Nat→Option (Ann UU):=fun(l,key)=>annL []
def Zu204:=us [Zh264,Zh265]
theorem Zo204:Holds EE (204,Zk204):=by
 refine holds_of EE_ok func204 Zk204 (by kernel_rfl) Zu204 (us_ok _) Za204 (fun x hp hb=> ?_)
 obtain⟨l,key⟩:=x
 have hl_l:l.length≤9223372036854775807:=bdL (hb _ m0)
 have hl_key:=bdS (s:=key) (hb _ m1)
 clear hp hb
 apply @ve _ ((∀(j:Nat),j<l.length→closP Zk265 [DV.ptr [CS key]] [daUndo (List.getD l j zUndo)]=some (Value.bool (boolOf (closP Zk265 [DV.ptr [CS key]] [daUndo (List.getD l j zUndo)]))))∧Lb (anyI (l.length) fun(j:Nat)=>boolOf (closP Zk265 [DV.ptr [CS key]] [daUndo (List.getD l j zUndo)])) (hasKey l key)) (by kernel_rfl)
 have hc:∀x:DUndo,closP Zk265 [.ptr [.lit (.string key)]] [daUndo x]=some (.bool (decide (x.Key=key))):=fun x=>closP_of (x:=(x,key)) rfl rfl rfl rfl (by simp[Zk265])
 refine⟨fun j hj=> ?_,Lf_b ?_⟩
 ·show closP Zk265 [.ptr [.lit (.string key)]] [daUndo (List.getD l j zUndo)]=_
  rw[hc];rfl
 ·exact anyI_congr fun j hj=>by
   show boolOf (closP Zk265 [.ptr [.lit (.string key)]] [daUndo (List.getD l j zUndo)])=_
   rw[hc];rfl
def Zh204:HH:=⟨_,Zo204⟩
def Zk131:Con UU where
 α:=(List DUndo)
 md:=[.ro]
 of:=o1 (oL .eUndo)
 ds:=fun x=>[dL .eUndo x]
 pre:=fun _=>[]
 res:=fun l=>⟨[dO (undosOk l)],true,[]⟩
 law:=l1 (lL .eUndo)
def Zi131_4(l:(List DUndo)):Int×Unit→Prop:=fun(i,_)=>0≤i∧i≤l.length∧l.length≤30∧∀j:Nat,(j:Int)<i→undoAt l j=true
def Zm131_4(l:(List DUndo)):Int×Unit→Nat:=fun(i,_)=>l.length-i.toNat
def Za131:Zk131.α→Nat→Option (Ann UU):=fun l=>annL [(4,annOf [.slot 10 (10,1024) (.lit (.int .i64))] (fun _=>Zi131_4 l) (Zm131_4 l))]
def Zu131:=us [Zh203,Zh42,Zh204]
theorem Zo131:Holds EE (131,Zk131):=by
 refine holds_of EE_ok func131 Zk131 (by kernel_rfl) Zu131 (us_ok _) Za131 (fun(l:(List DUndo)) hp hb=> ?_)
 have hl_l:l.length≤9223372036854775807:=bdL (hb _ m0)
 clear hp hb
 apply @ve _ (let x0:Int:=(l.length:Int);let x1:Int:=Option.getD none (0:Int);bif decide (x0>(30:Int)) then Lb false (undosOk l) else Zi131_4 l ((0:Int),())∧∀(y:Int×PUnit),let x2:Int:=Option.getD (some y.1) x0;Zi131_4 l y→bif decide (y.1<x0) then(0:Int)≤y.1∧y.1.toNat<l.length∧bif !decide ((1:Nat)≤ByteArray.size (List.getD l y.1.toNat zUndo).Key∧ByteArray.size (List.getD l y.1.toNat zUndo).Key≤(200:Nat)) then Lb false (undosOk l) else bif !factOk (List.getD l y.1.toNat zUndo).F then Lb false (undosOk l) else(0:Int)≤x1∧x1≤x2∧x2≤x0∧bif hasKey (List.drop x1.toNat (List.take x2.toNat l)) (List.getD l y.1.toNat zUndo).Key then Lb false (undosOk l) else Zi131_4 l (IntKind.wrap IntKind.i64 (y.1+(1:Int)),())∧Zm131_4 l (IntKind.wrap IntKind.i64 (y.1+(1:Int)),())<Zm131_4 l y else Lb true (undosOk l)) (by kernel_rfl)
 dsimp only
 refine if_cond (fun h=>Lf_ff ?_) (fun h=>⟨⟨by omega,by omega,by have h:=of_decide_eq_false h;omega,by intro j hj;omega⟩,?_⟩)
 ·have h:=of_decide_eq_true h;simp only[undosOk];rw[decide_eq_false (by omega)];rfl
 rintro⟨i,⟨⟩⟩ ⟨h1,h2,h3,hR⟩
 simp only
 refine if_cond (fun hc=> ?_) (fun hc=> ?_)
 ·have hc:=of_decide_eq_true hc
  have hN:undoAt l i.toNat=false→undosOk l=false:=fun h=>by
   have hf:allI l.length (undoAt l)=false:=allI_false (j:=i.toNat) (by omega) h
   simp only[undosOk,hf];simp
  have hk:hasKey (List.drop (Int.toNat 0) (List.take i.toNat l)) (List.getD l i.toNat zUndo).Key=anyI i.toNat fun k=>decide ((List.getD l k zUndo).Key=(List.getD l i.toNat zUndo).Key):=by
   show anyI _ _=_
   have e:(List.take i.toNat l).length=i.toNat:=by rw[zaw];omega
   rw[show Int.toNat 0=0 from rfl,List.drop_zero,e]
   exact anyI_congr fun j hj=>by rw[getD_take l zUndo hj]
  simp only[zdf,zcj,hk]
  simp(disch:=omega) only[wrap_i64]
  have hm:Zm131_4 l (i+1,PUnit.unit)<Zm131_4 l (i,()):=by simp only[Zm131_4];omega
  refine⟨by omega,by omega,if_cond (fun h=>Lf_ff (hN ?_)) (fun h=>if_cond (fun h'=>Lf_ff (hN ?_)) (fun h'=>⟨by omega,by omega,by omega,if_cond (fun h''=>Lf_ff (hN ?_)) (fun h''=>⟨⟨by omega,by omega,h3,upto_step h1 hR ?_⟩,hm⟩)⟩))⟩
  all_goals (simp only[undoAt];grind)
 ·have hc:=of_decide_eq_false hc
  have hA:allI l.length (undoAt l)=true:=allI_true fun j hj=>hR j (by omega)
  refine Lf_b ?_
  simp only[undosOk,hA];grind
def Zh131:HH:=⟨_,Zo131⟩
def Zk117:Con UU where
 α:=(List DUndo)
 md:=[.ro]
 of:=o1 (oL .eUndo)
 ds:=fun x=>[dL .eUndo x]
 pre:=fun _=>[]
 res:=fun l=>⟨[dO (undosOk l)],true,[]⟩
 law:=l1 (lL .eUndo)
def Zi117_2(l:(List DUndo)):Int×Unit→Prop:=fun(i,_)=>0≤i∧i≤l.length∧∀j:Nat,(j:Int)<i→undoAt l j=true
def Zm117_2(l:(List DUndo)):Int×Unit→Nat:=fun(i,_)=>l.length-i.toNat
def Zi117_7(l:(List DUndo)):Int×Int×Unit→Int×Int×Unit→Prop:=fun(i0,k0,_) (i,k,_)=>i=i0∧0≤k∧k≤i∧∀j:Nat,(j:Int)<k→decide ((List.getD l j zUndo).Key=(List.getD l i.toNat zUndo).Key)=false
def Zm117_7(l:(List DUndo)):Int×Int×Unit→Nat:=fun(i,k,_)=>i.toNat-k.toNat
def Za117:Zk117.α→Nat→Option (Ann UU):=fun l=>annL [(2,annOf [.slot 3 (3,1024) (.lit (.int .i64))] (fun _=>Zi117_2 l) (Zm117_2 l)),(7,annOf [.slot 3 (3,1024) (.lit (.int .i64)),.slot 4 (4,1024) (.lit (.int .i64))] (Zi117_7 l) (Zm117_7 l))]
def Zu117:=us [Zh104,Zh175]
theorem Zo117:Holds EE (117,Zk117):=by
 refine holds_of EE_ok func117 Zk117 (by kernel_rfl) Zu117 (us_ok _) Za117 (fun(l:(List DUndo)) hp hb=> ?_)
 have hl_l:l.length≤9223372036854775807:=bdL (hb _ m0)
 clear hp hb
 apply @ve _ (let x0:Int:=(l.length:Int);Zi117_2 l ((0:Int),())∧∀(y:Int×PUnit),Zi117_2 l y→bif decide (y.1<x0) then(0:Int)≤y.1∧y.1.toNat<l.length∧bif !decide ((1:Int)≤(↑(ByteArray.size (List.getD l y.1.toNat zUndo).Key):Int)∧(↑(ByteArray.size (List.getD l y.1.toNat zUndo).Key):Int)≤(200:Int)) then Lb false (undosOk l) else(0:Int)≤y.1∧y.1.toNat<l.length∧bif !factOk (List.getD l y.1.toNat zUndo).F then Lb false (undosOk l) else Zi117_7 l (y.1,(0:Int),()) (y.1,(0:Int),())∧∀(y_1:Int×Int×PUnit),let x1:Nat:=y_1.2.1.toNat;Zi117_7 l (y.1,(0:Int),()) y_1→bif decide (y_1.2.1<y_1.1) then(0:Int)≤y_1.1∧y_1.1.toNat<l.length∧(0:Int)≤y_1.2.1∧x1<l.length∧bif ByteArray.toList (List.getD l y_1.1.toNat zUndo).Key==ByteArray.toList (List.getD l x1 zUndo).Key then Lb false (undosOk l) else Zi117_7 l (y.1,(0:Int),()) (y_1.1,IntKind.wrap IntKind.i64 (y_1.2.1+(1:Int)),())∧Zm117_7 l (y_1.1,IntKind.wrap IntKind.i64 (y_1.2.1+(1:Int)),())<Zm117_7 l y_1 else Zi117_2 l (IntKind.wrap IntKind.i64 (y_1.1+(1:Int)),())∧Zm117_2 l (IntKind.wrap IntKind.i64 (y_1.1+(1:Int)),())<Zm117_2 l y else Lb (decide (x0≤(30:Int))) (undosOk l)) (by kernel_rfl)
 dsimp only
 refine⟨⟨by omega,by omega,by intro j hj;omega⟩,?_⟩
 rintro⟨i,⟨⟩⟩ ⟨h1,h2,hR⟩
 simp only
 refine if_cond (fun hc=> ?_) (fun hc=> ?_)
 ·have hc:=of_decide_eq_true hc
  have hN:undoAt l i.toNat=false→undosOk l=false:=fun h=>by
   have hf:allI l.length (undoAt l)=false:=allI_false (j:=i.toNat) (by omega) h
   simp only[undosOk,hf];simp
  have hm:Zm117_2 l (i+1,PUnit.unit)<Zm117_2 l (i,()):=by simp only[Zm117_2];omega
  refine⟨by omega,by omega,if_cond (fun h=>Lf_ff (hN ?_)) (fun h=>⟨by omega,by omega,if_cond (fun h'=>Lf_ff (hN ?_)) (fun h'=>⟨⟨rfl,by omega,by omega,by intro j hj;omega⟩,?_⟩)⟩)⟩
  ·simp only[undoAt];grind
  ·simp only[undoAt];grind
  rintro⟨i,k,⟨⟩⟩ ⟨rfl,g1,g2,gR⟩
  simp only
  refine if_cond (fun hk=> ?_) (fun hk=> ?_)
  ·have hk:=of_decide_eq_true hk
   simp(disch:=omega) only[wrap_i64,toList_beq]
   refine⟨by omega,by omega,by omega,by omega,if_cond (fun h''=>Lf_ff (hN ?_)) (fun h''=>⟨⟨rfl,by omega,by omega,upto_no g1 gR ?_⟩,by simp only[Zm117_7];omega⟩)⟩
   ·have ha:(anyI i.toNat fun k=>decide ((List.getD l k zUndo).Key=(List.getD l i.toNat zUndo).Key))=true:=anyI_true (j:=k.toNat) (by omega) (by grind)
    simp only[undoAt,ha];simp
   ·grind
  ·have hk:=of_decide_eq_false hk
   simp(disch:=omega) only[wrap_i64]
   refine⟨⟨by omega,by omega,upto_step h1 hR ?_⟩,hm⟩
   have ha:(anyI i.toNat fun k=>decide ((List.getD l k zUndo).Key=(List.getD l i.toNat zUndo).Key))=false:=anyI_false fun j hj=>gR j (by omega)
   simp only[undoAt,ha];grind
 ·have hc:=of_decide_eq_false hc
  have hA:allI l.length (undoAt l)=true:=allI_true fun j hj=>hR j (by omega)
  refine Lf_b ?_
  simp only[undosOk,hA];grind
def Zh117:HH:=⟨_,Zo117⟩
def Zk295:Con UU where
 α:=(List DVal)
 md:=[.ro]
 of:=o1 (oL .eVal)
 ds:=fun x=>[dL .eVal x]
 pre:=fun l=>[l.length≤4294967296]
 res:=fun l=>⟨[dL .eVal l],true,[]⟩
 law:=l1 (lL .eVal)
def Za295:Zk295.α→Nat→Option (Ann UU):=fun l=>annL []
def Zu295:List (FuncId×Con UU):=[]
theorem Zw295:goalN EE Zu295 f295 Zk295 Za295 [] .eVal [] true=(Lf [VL .eVal []] [VL .eVal []]):=by kernel_rfl
theorem Zx295:goalN EE Zu295 f295 Zk295 Za295 [] .eVal [] true:=by
 rw[Zw295]
 exact Lf_rfl _
theorem Zo295:Holds EE (295,Zk295):=by
 refine holds_ofN EE_ok func295 Zk295 (by kernel_rfl) rfl .eVal (fun x=>x) (fun _=>rfl) Zu295 all_nil Za295 (fun(l:(List DVal)) hp hb=> ?_)
 have hl_l:l.length≤9223372036854775807:=bdL (hb _ m0)
 have hp0:l.length≤4294967296:=hp _ m0
 clear hp hb
 refine⟨?_,fun h0=> ?_⟩
 rotate_left
 ·subst h0;exact Zx295
 apply @ve _ ((0:Nat)+l.length≤(4294967296:Nat)∧Lf [VL .eVal ([]++l)] [VL .eVal l]) (by kernel_rfl)
 exact⟨by simp;omega,Lf_rfl _⟩
def Zh295:HH:=⟨_,Zo295⟩
def Zk159:Con UU where
 α:=DFact
 md:=[.ro]
 of:=o1 (oA .eFact)
 ds:=fun x=>[dA .eFact x]
 pre:=fun f=>[f.Fields.length≤4294967296]
 res:=fun f=>⟨[dA .eFact f],true,[]⟩
 law:=l1 (lA .eFact)
def Za159:Zk159.α→Nat→Option (Ann UU):=fun f=>annL []
def Zu159:List (FuncId×Con UU):=[]
theorem Zo159:Holds EE (159,Zk159):=by
 refine holds_of EE_ok func159 Zk159 (by kernel_rfl) Zu159 all_nil Za159 (fun(f:DFact) hp hb=> ?_)
 have hz0:=bd_eFact (x:=f) (hb _ m0)
 have hl_f_Kind:=hz0.1
 have hl_f_Fields:=hz0.2
 have hp0:f.Fields.length≤4294967296:=hp _ m0
 clear hp hb
 apply @ve _ ((0:Nat)+f.Fields.length≤(4294967296:Nat)∧Lf [DV.agg [CS f.Kind,CL .eVal ([]++f.Fields)]] [DV.agg [CS f.Kind,CL .eVal f.Fields]]) (by kernel_rfl)
 exact⟨by simp;omega,Lf_rfl _⟩
def Zh159:HH:=⟨_,Zo159⟩
def Zk266:Con UU where
 α:=DFact
 md:=[.ro]
 of:=o1 (oA .eFact)
 ds:=fun x=>[dA .eFact x]
 pre:=fun f=>[f.Fields.length≤4294967296]
 res:=fun f=>⟨[dA .eFact f],true,[]⟩
 law:=l1 (lA .eFact)
def Za266:Zk266.α→Nat→Option (Ann UU):=fun f=>annL []
def Zu266:=us [Zh295]
theorem Zo266:Holds EE (266,Zk266):=by
 refine holds_of EE_ok func266 Zk266 (by kernel_rfl) Zu266 (us_ok _) Za266 (fun(f:DFact) hp hb=> ?_)
 have hz0:=bd_eFact (x:=f) (hb _ m0)
 have hl_f_Kind:=hz0.1
 have hl_f_Fields:=hz0.2
 have hp0:f.Fields.length≤4294967296:=hp _ m0
 clear hp hb
 apply @ve _ (f.Fields.length≤(4294967296:Nat)∧Lf [DV.agg [CS f.Kind,CL .eVal f.Fields]] [DV.agg [CS f.Kind,CL .eVal f.Fields]]) (by kernel_rfl)
 exact⟨hp0,Lf_rfl _⟩
def Zh266:HH:=⟨_,Zo266⟩
def undoOk(s:ByteArray):Bool:=decide (s=noBytes)||nameOk s
def taskOk(t:DTask):Bool:=factOk t.F&&undoOk t.Undo&&decide (1≤t.State∧t.State≤4)&&decide (0≤t.Tries∧t.Tries≤4)&&decide (0≤t.Due∧t.Due≤1000001000)&&(decide (t.V=zVal)||valOk t.V)&&decide ((t.State=1→t.Tries=0)∧(t.State=2→t.Tries≠0))
def taskAt(l:List DTask)(i:Nat):Bool:=taskOk (List.getD l i zTask)&& !(anyI i fun k=>decide ((List.getD l k zTask).F=(List.getD l i zTask).F))
def tasksOk(l:List DTask):Bool:=decide (l.length≤30)&&allI l.length (taskAt l)
def placeOf(l:List DTask)(f:DFact):Int:=idxI l.length fun k=>decide ((List.getD l k zTask).F=f)
def isOpen(t:DTask):Bool:=decide (t.State=1∨t.State=2)
def daTask(x:DTask):DA UU:=⟨true,[.lit (.string x.F.Kind),.sl .eVal x.F.Fields,.lit (.string x.Undo),.lit (.int .i64 x.State),.lit (.int .i64 x.Tries),.lit (.int .i64 x.Due),.lit (.int .i64 x.V.K),.lit (.int .i64 x.V.N),.lit (.string x.V.S)]⟩
theorem fact_ext{a b:DFact}:a=b↔a.Kind=b.Kind∧a.Fields=b.Fields:=by
 obtain⟨k,f⟩:=a;obtain⟨k',f'⟩:=b;simp
def Zk255:Con UU where
 α:=(List DVal)×(List DVal)
 md:=[.ro,.ro]
 of:=oC (oL .eVal) (o1 (oL .eVal))
 ds:=fun x=>[dL .eVal x.1,dL .eVal x.2]
 pre:=fun _=>[]
 res:=fun(a,b)=>⟨[dO (decide (a=b))],true,[]⟩
 law:=lC (lL .eVal) (l1 (lL .eVal))
def Zi255_4(a:(List DVal))(b:(List DVal)):Int×Unit→Prop:=fun(i,_)=>0≤i∧i≤a.length∧a.length=b.length∧(a.drop i.toNat=b.drop i.toNat↔a=b)
def Zm255_4(a:(List DVal))(b:(List DVal)):Int×Unit→Nat:=fun(i,_)=>a.length-i.toNat
def Za255:Zk255.α→Nat→Option (Ann UU):=fun(a,b)=>annL [(4,annOf [.slot 5 (5,1024) (.lit (.int .i64))] (fun _=>Zi255_4 a b) (Zm255_4 a b))]
def Zu255:List (FuncId×Con UU):=[]
theorem Zo255:Holds EE (255,Zk255):=by
 refine holds_of EE_ok func255 Zk255 (by kernel_rfl) Zu255 all_nil Za255 (fun x hp hb=> ?_)
 obtain⟨a,b⟩:=x
 have hl_a:a.length≤9223372036854775807:=bdL (hb _ m0)
 have hl_b:b.length≤9223372036854775807:=bdL (hb _ m1)
 clear hp hb
 apply @ve _ (bif (a.length:Int) !=(b.length:Int) then Lb false (decide (a=b)) else Zi255_4 a b ((0:Int),())∧∀(y:Int×PUnit),let x0:DVal:=List.getD a y.1.toNat zVal;let x1:DVal:=List.getD b y.1.toNat zVal;Zi255_4 a b y→bif decide (y.1<(a.length:Int)) then(0:Int)≤y.1∧y.1.toNat<a.length∧(0:Int)≤y.1∧y.1.toNat<b.length∧bif !(x0.K==x1.K&&(x0.N==x1.N&&(ByteArray.toList x0.S==ByteArray.toList x1.S&&true))) then Lb false (decide (a=b)) else Zi255_4 a b (IntKind.wrap IntKind.i64 (y.1+(1:Int)),())∧Zm255_4 a b (IntKind.wrap IntKind.i64 (y.1+(1:Int)),())<Zm255_4 a b y else Lb true (decide (a=b))) (by kernel_rfl)
 dsimp only
 refine if_cond (fun h=>Lf_f ?_) (fun h=>⟨?_,?_⟩)
 ·rintro rfl;simp at h
 ·simp[Zi255_4] at*;omega
 rintro⟨i,⟨⟩⟩ ⟨h1,h2,h3,hR⟩
 simp only at*
 refine if_cond (fun hc=> ?_) (fun hc=> ?_)
 ·have hc:i<a.length:=by simpa using hc
  rw[drop_step a zVal h1 hc,drop_step b zVal h1 (by omega)] at hR
  rw[wrap_i64 (by omega) (by omega)]
  simp only[val_beq]
  refine⟨by omega,by omega,by omega,by omega,if_cond (fun h=>Lf_f ?_) (fun h=>⟨⟨by omega,by omega,h3,?_⟩,?_⟩)⟩
  ·rw[←hR];simp at h;simp[h]
  ·rw[←hR];simp at h;simp[h]
  ·simp only[Zm255_4];omega
 ·have hc:a.length≤i:=by simpa using hc
  rw[drop_end a hc,drop_end b (by omega)] at hR
  exact Lf_t (hR.1 rfl)
def Zh255:HH:=⟨_,Zo255⟩
def Zk162:Con UU where
 α:=(List DVal)×(List DVal)
 md:=[.ro,.ro]
 of:=oC (oL .eVal) (o1 (oL .eVal))
 ds:=fun x=>[dL .eVal x.1,dL .eVal x.2]
 pre:=fun _=>[]
 res:=fun(a,b)=>⟨[dO (decide (a=b))],true,[]⟩
 law:=lC (lL .eVal) (l1 (lL .eVal))
def Zi162_4(a:(List DVal))(b:(List DVal)):Int×Unit→Prop:=fun(i,_)=>0≤i∧i≤a.length∧a.length=b.length∧(a.drop i.toNat=b.drop i.toNat↔a=b)
def Zm162_4(a:(List DVal))(b:(List DVal)):Int×Unit→Nat:=fun(i,_)=>a.length-i.toNat
def Za162:Zk162.α→Nat→Option (Ann UU):=fun(a,b)=>annL [(4,annOf [.slot 13 (13,1024) (.lit (.int .i64))] (fun _=>Zi162_4 a b) (Zm162_4 a b))]
def Zu162:List (FuncId×Con UU):=[]
theorem Zo162:Holds EE (162,Zk162):=by
 refine holds_of EE_ok func162 Zk162 (by kernel_rfl) Zu162 all_nil Za162 (fun x hp hb=> ?_)
 obtain⟨a,b⟩:=x
 have hl_a:a.length≤9223372036854775807:=bdL (hb _ m0)
 have hl_b:b.length≤9223372036854775807:=bdL (hb _ m1)
 clear hp hb
 apply @ve _ (bif (a.length:Int) !=(b.length:Int) then Lb false (decide (a=b)) else Zi162_4 a b ((0:Int),())∧∀(y:Int×PUnit),let x0:DVal:=List.getD b y.1.toNat zVal;let x1:DVal:=List.getD a y.1.toNat zVal;Zi162_4 a b y→bif decide (y.1<(a.length:Int)) then(0:Int)≤y.1∧y.1.toNat<a.length∧(0:Int)≤y.1∧y.1.toNat<b.length∧bif !(x1.K==x0.K&&(x1.N==x0.N&&(ByteArray.toList x1.S==ByteArray.toList x0.S&&true))) then Lb false (decide (a=b)) else Zi162_4 a b (IntKind.wrap IntKind.i64 (y.1+(1:Int)),())∧Zm162_4 a b (IntKind.wrap IntKind.i64 (y.1+(1:Int)),())<Zm162_4 a b y else Lb true (decide (a=b))) (by kernel_rfl)
 dsimp only
 refine if_cond (fun h=>Lf_f ?_) (fun h=>⟨?_,?_⟩)
 ·rintro rfl;simp at h
 ·simp[Zi162_4] at*;omega
 rintro⟨i,⟨⟩⟩ ⟨h1,h2,h3,hR⟩
 simp only at*
 refine if_cond (fun hc=> ?_) (fun hc=> ?_)
 ·have hc:i<a.length:=by simpa using hc
  rw[drop_step a zVal h1 hc,drop_step b zVal h1 (by omega)] at hR
  rw[wrap_i64 (by omega) (by omega)]
  simp only[val_beq]
  refine⟨by omega,by omega,by omega,by omega,if_cond (fun h=>Lf_f ?_) (fun h=>⟨⟨by omega,by omega,h3,?_⟩,?_⟩)⟩
  ·rw[←hR];simp at h;simp[h]
  ·rw[←hR];simp at h;simp[h]
  ·simp only[Zm162_4];omega
 ·have hc:a.length≤i:=by simpa using hc
  rw[drop_end a hc,drop_end b (by omega)] at hR
  exact Lf_t (hR.1 rfl)
def Zh162:HH:=⟨_,Zo162⟩
def Zk186:Con UU where
 α:=DFact×DFact
 md:=[.ro,.ro]
 of:=oC (oA .eFact) (o1 (oA .eFact))
 ds:=fun x=>[dA .eFact x.1,dA .eFact x.2]
 pre:=fun _=>[]
 res:=fun(a,b)=>⟨[dO (decide (a=b))],true,[]⟩
 law:=lC (lA .eFact) (l1 (lA .eFact))
def Za186:Zk186.α→Nat→Option (Ann UU):=fun(a,b)=>annL []
def Zu186:=us [Zh255]
theorem Zo186:Holds EE (186,Zk186):=by
 refine holds_of EE_ok func186 Zk186 (by kernel_rfl) Zu186 (us_ok _) Za186 (fun x hp hb=> ?_)
 obtain⟨a,b⟩:=x
 have hz0:=bd_eFact (x:=a) (hb _ m0)
 have hl_a_Kind:=hz0.1
 have hl_a_Fields:=hz0.2
 have hz1:=bd_eFact (x:=b) (hb _ m1)
 have hl_b_Kind:=hz1.1
 have hl_b_Fields:=hz1.2
 clear hp hb
 apply @ve _ (bif ByteArray.toList a.Kind==ByteArray.toList b.Kind then Lb (decide (a.Fields=b.Fields)) (decide (a=b)) else Lb false (decide (a=b))) (by kernel_rfl)
 simp only[toList_beq]
 refine if_cond (fun h=>Lf_b ?_) (fun h=>Lf_b ?_)<;>(simp only[fact_ext];grind)
def Zh186:HH:=⟨_,Zo186⟩
def Zk86:Con UU where
 α:=DFact×DFact
 md:=[.ro,.ro]
 of:=oC (oA .eFact) (o1 (oA .eFact))
 ds:=fun x=>[dA .eFact x.1,dA .eFact x.2]
 pre:=fun _=>[]
 res:=fun(a,b)=>⟨[dO (decide (a=b))],true,[]⟩
 law:=lC (lA .eFact) (l1 (lA .eFact))
def Za86:Zk86.α→Nat→Option (Ann UU):=fun(a,b)=>annL []
def Zu86:=us [Zh162]
theorem Zo86:Holds EE (86,Zk86):=by
 refine holds_of EE_ok func86 Zk86 (by kernel_rfl) Zu86 (us_ok _) Za86 (fun x hp hb=> ?_)
 obtain⟨a,b⟩:=x
 have hz0:=bd_eFact (x:=a) (hb _ m0)
 have hl_a_Kind:=hz0.1
 have hl_a_Fields:=hz0.2
 have hz1:=bd_eFact (x:=b) (hb _ m1)
 have hl_b_Kind:=hz1.1
 have hl_b_Fields:=hz1.2
 clear hp hb
 apply @ve _ (bif ByteArray.toList a.Kind==ByteArray.toList b.Kind then Lb (decide (a.Fields=b.Fields)) (decide (a=b)) else Lb false (decide (a=b))) (by kernel_rfl)
 simp only[toList_beq]
 refine if_cond (fun h=>Lf_b ?_) (fun h=>Lf_b ?_)<;>(simp only[fact_ext];grind)
def Zh86:HH:=⟨_,Zo86⟩
def Zk253:Con UU where
 α:=ByteArray
 md:=[.ro]
 of:=o1 oS
 ds:=fun x=>[dS x]
 pre:=fun _=>[]
 res:=fun s=>⟨[dO (undoOk s)],true,[]⟩
 law:=l1 lS
def Za253:Zk253.α→Nat→Option (Ann UU):=fun s=>annL []
def Zu253:=us [Zh103]
theorem Zo253:Holds EE (253,Zk253):=by
 refine holds_of EE_ok func253 Zk253 (by kernel_rfl) Zu253 (us_ok _) Za253 (fun(s:ByteArray) hp hb=> ?_)
 have hl_s:=bdS (s:=s) (hb _ m0)
 clear hp hb
 apply @ve _ (bif ByteArray.toList s==ByteArray.toList {data:= #[]:ByteArray} then Lb true (undoOk s) else Lb (nameOk s) (undoOk s)) (by kernel_rfl)
 have e:(ByteArray.toList s==ByteArray.toList {data:= #[]})=decide (s=noBytes):=toList_beq _ _
 simp only[e,undoOk]
 refine if_cond (fun h=>Lf_b ?_) (fun h=>Lf_b ?_)<;>grind
def Zh253:HH:=⟨_,Zo253⟩
def Zk43:Con UU where
 α:=ByteArray
 md:=[.ro]
 of:=o1 oS
 ds:=fun x=>[dS x]
 pre:=fun _=>[]
 res:=fun s=>⟨[dO (undoOk s)],true,[]⟩
 law:=l1 lS
def Za43:Zk43.α→Nat→Option (Ann UU):=fun s=>annL []
def Zu43:=us [Zh33]
theorem Zo43:Holds EE (43,Zk43):=by
 refine holds_of EE_ok func43 Zk43 (by kernel_rfl) Zu43 (us_ok _) Za43 (fun(s:ByteArray) hp hb=> ?_)
 have hl_s:=bdS (s:=s) (hb _ m0)
 clear hp hb
 apply @ve _ (bif ByteArray.toList s==ByteArray.toList {data:= #[]:ByteArray} then Lb true (undoOk s) else Lb (nameOk s) (undoOk s)) (by kernel_rfl)
 have e:(ByteArray.toList s==ByteArray.toList {data:= #[]})=decide (s=noBytes):=toList_beq _ _
 simp only[e,undoOk]
 refine if_cond (fun h=>Lf_b ?_) (fun h=>Lf_b ?_)<;>grind
def Zh43:HH:=⟨_,Zo43⟩
def Zk185:Con UU where
 α:=DTask
 md:=[.ro]
 of:=o1 (oA .eTask)
 ds:=fun x=>[dA .eTask x]
 pre:=fun _=>[]
 res:=fun t=>⟨[dO (taskOk t)],true,[]⟩
 law:=l1 (lA .eTask)
def Za185:Zk185.α→Nat→Option (Ann UU):=fun t=>annL []
def Zu185:=us [Zh175,Zh253,Zh104,Zh254]
theorem Zo185:Holds EE (185,Zk185):=by
 refine holds_of EE_ok func185 Zk185 (by kernel_rfl) Zu185 (us_ok _) Za185 (fun(t:DTask) hp hb=> ?_)
 have hz0:=bd_eTask (x:=t) (hb _ m0)
 have hl_t_F_Kind:=hz0.1
 have hl_t_F_Fields:=hz0.2.1
 have hl_t_Undo:=hz0.2.2.1
 have hl_t_V_S:=hz0.2.2.2
 clear hp hb
 apply @ve _ (bif !factOk t.F then Lb false (taskOk t) else bif !undoOk t.Undo then Lb false (taskOk t) else bif !decide ((1:Int)≤t.State∧t.State≤(4:Int)) then Lb false (taskOk t) else bif !decide ((0:Int)≤t.Tries∧t.Tries≤(4:Int)) then Lb false (taskOk t) else bif !decide ((0:Int)≤t.Due∧t.Due≤(1000001000:Int)) then Lb false (taskOk t) else bif !(t.V.K==(0:Int)&&(t.V.N==(0:Int)&&(ByteArray.toList t.V.S==ByteArray.toList {data:= #[]:ByteArray}&&true))) then bif !valOk t.V then Lb false (taskOk t) else bif t.State !=(1:Int) then bif t.State !=(2:Int) then Lb true (taskOk t) else Lb ((t.State==(1:Int))==(t.Tries==(0:Int))) (taskOk t) else Lb ((t.State==(1:Int))==(t.Tries==(0:Int))) (taskOk t) else bif t.State !=(1:Int) then bif t.State !=(2:Int) then Lb true (taskOk t) else Lb ((t.State==(1:Int))==(t.Tries==(0:Int))) (taskOk t) else Lb ((t.State==(1:Int))==(t.Tries==(0:Int))) (taskOk t)) (by kernel_rfl)
 have e:∀v:DVal,(v.K==0&&(v.N==0&&(ByteArray.toList v.S==ByteArray.toList {data:= #[]}&&true)))=decide (v=zVal):=fun v=>val_beq v zVal
 simp only[e]
 simp only[taskOk]
 repeat' (refine if_cond (fun h=> ?_) (fun h=> ?_))
 all_goals (refine Lf_b ?_;grind)
def Zh185:HH:=⟨_,Zo185⟩
def Zk200:Con UU where
 α:=DTask
 md:=[.ro]
 of:=o1 (oA .eTask)
 ds:=fun x=>[dA .eTask x]
 pre:=fun _=>[]
 res:=fun t=>⟨[dO (taskOk t)],true,[]⟩
 law:=l1 (lA .eTask)
def Za200:Zk200.α→Nat→Option (Ann UU):=fun t=>annL []
def Zu200:=us [Zh42,Zh43,Zh34,Zh107]
theorem Zo200:Holds EE (200,Zk200):=by
 refine holds_of EE_ok func200 Zk200 (by kernel_rfl) Zu200 (us_ok _) Za200 (fun(t:DTask) hp hb=> ?_)
 have hz0:=bd_eTask (x:=t) (hb _ m0)
 have hl_t_F_Kind:=hz0.1
 have hl_t_F_Fields:=hz0.2.1
 have hl_t_Undo:=hz0.2.2.1
 have hl_t_V_S:=hz0.2.2.2
 clear hp hb
 apply @ve _ (bif !factOk t.F then Lb false (taskOk t) else bif !undoOk t.Undo then Lb false (taskOk t) else bif !decide ((1:Int)≤t.State∧t.State≤(4:Int)) then Lb false (taskOk t) else bif !decide ((0:Int)≤t.Tries∧t.Tries≤(4:Int)) then Lb false (taskOk t) else bif t.State==(1:Int) then bif t.Tries !=(0:Int) then Lb false (taskOk t) else bif t.State==(2:Int) then bif t.Tries==(0:Int) then Lb false (taskOk t) else bif decide ((0:Int)≤t.Due∧t.Due≤(1000001000:Int)) then bif t.V.K==(0:Int)&&(t.V.N==(0:Int)&&(ByteArray.toList t.V.S==ByteArray.toList {data:= #[]:ByteArray}&&true)) then Lb true (taskOk t) else Lb (valOk t.V) (taskOk t) else Lb false (taskOk t) else bif decide ((0:Int)≤t.Due∧t.Due≤(1000001000:Int)) then bif t.V.K==(0:Int)&&(t.V.N==(0:Int)&&(ByteArray.toList t.V.S==ByteArray.toList {data:= #[]:ByteArray}&&true)) then Lb true (taskOk t) else Lb (valOk t.V) (taskOk t) else Lb false (taskOk t) else bif t.State==(2:Int) then bif t.Tries==(0:Int) then Lb false (taskOk t) else bif decide ((0:Int)≤t.Due∧t.Due≤(1000001000:Int)) then bif t.V.K==(0:Int)&&(t.V.N==(0:Int)&&(ByteArray.toList t.V.S==ByteArray.toList {data:= #[]:ByteArray}&&true)) then Lb true (taskOk t) else Lb (valOk t.V) (taskOk t) else Lb false (taskOk t) else bif decide ((0:Int)≤t.Due∧t.Due≤(1000001000:Int)) then bif t.V.K==(0:Int)&&(t.V.N==(0:Int)&&(ByteArray.toList t.V.S==ByteArray.toList {data:= #[]:ByteArray}&&true)) then Lb true (taskOk t) else Lb (valOk t.V) (taskOk t) else Lb false (taskOk t)) (by kernel_rfl)
 have e:∀v:DVal,(v.K==0&&(v.N==0&&(ByteArray.toList v.S==ByteArray.toList {data:= #[]}&&true)))=decide (v=zVal):=fun v=>val_beq v zVal
 simp only[e]
 simp only[taskOk]
 repeat' (refine if_cond (fun h=> ?_) (fun h=> ?_))
 all_goals (refine Lf_b ?_;grind)
def Zh200:HH:=⟨_,Zo200⟩
def Zk206:Con UU where
 α:=(List DTask)×(List (DA UU)→Option Value)
 md:=[.ro,.ro]
 of:=oC (oL .eTask) (o1 oF)
 ds:=fun x=>[dL .eTask x.1,dF x.2]
 pre:=fun(l,p)=>[∀j:Nat,j<l.length→p [daTask (List.getD l j zTask)]=some (.bool (boolOf (p [daTask (List.getD l j zTask)])))]
 res:=fun(l,p)=>⟨[dI (idxI l.length (fun j=>boolOf (p [daTask (List.getD l j zTask)])))],true,[]⟩
 law:=lC (lL .eTask) (l1 lF)
def Zi206_2(l:(List DTask))(p:(List (DA UU)→Option Value)):Int×Unit→Prop:=fun(i,_)=>0≤i∧i≤l.length∧∀j:Nat,(j:Int)<i→boolOf (p [daTask (List.getD l j zTask)])=false
def Zm206_2(l:(List DTask))(p:(List (DA UU)→Option Value)):Int×Unit→Nat:=fun(i,_)=>l.length-i.toNat
def Za206:Zk206.α→Nat→Option (Ann UU):=fun(l,p)=>annL [(2,annOf [.slot 8 (8,1024) (.lit (.int .i64))] (fun _=>Zi206_2 l p) (Zm206_2 l p))]
def Zu206:List (FuncId×Con UU):=[]
theorem Zo206:Holds EE (206,Zk206):=by
 refine holds_of EE_ok func206 Zk206 (by kernel_rfl) Zu206 all_nil Za206 (fun x hp hb=> ?_)
 obtain⟨l,p⟩:=x
 have hl_l:l.length≤9223372036854775807:=bdL (hb _ m0)
 have hp0:∀j:Nat,j<l.length→p [daTask (List.getD l j zTask)]=some (.bool (boolOf (p [daTask (List.getD l j zTask)]))):=hp _ m0
 clear hp hb
 apply @ve _ (Zi206_2 l p ((0:Int),())∧∀(y:Int×PUnit),let x1:DTask:=List.getD l y.1.toNat zTask;let x0:Bool:=boolOf (p [{agg:=true,cs:=[CS x1.F.Kind,CL .eVal x1.F.Fields,CS x1.Undo,CI x1.State,CI x1.Tries,CI x1.Due,CI x1.V.K,CI x1.V.N,CS x1.V.S]:DA UU}]);Zi206_2 l p y→bif decide (y.1<(l.length:Int)) then(0:Int)≤y.1∧y.1.toNat<l.length∧p [{agg:=true,cs:=[CS x1.F.Kind,CL .eVal x1.F.Fields,CS x1.Undo,CI x1.State,CI x1.Tries,CI x1.Due,CI x1.V.K,CI x1.V.N,CS x1.V.S]:DA UU}]=some (Value.bool x0)∧bif x0 then Li y.1 (idxI (l.length) fun(j:Nat)=>boolOf (p [daTask (List.getD l j zTask)])) else Zi206_2 l p (IntKind.wrap IntKind.i64 (y.1+(1:Int)),())∧Zm206_2 l p (IntKind.wrap IntKind.i64 (y.1+(1:Int)),())<Zm206_2 l p y else Li (-1:Int) (idxI (l.length) fun(j:Nat)=>boolOf (p [daTask (List.getD l j zTask)]))) (by kernel_rfl)
 dsimp only
 refine⟨⟨by omega,by omega,by intro j hj;omega⟩,?_⟩
 rintro⟨i,⟨⟩⟩ ⟨h1,h2,hR⟩
 simp only[daTask] at*
 refine if_cond (fun hc=> ?_) (fun hc=> ?_)
 ·have hc:=of_decide_eq_true hc
  rw[wrap_i64 (by omega) (by omega)]
  refine⟨by omega,by omega,hp0 i.toNat (by omega),if_cond (fun h=>Lf_i ?_) (fun h=>⟨⟨by omega,by omega,upto_no (p:=fun j=>boolOf (p [daTask (List.getD l j zTask)])) h1 hR h⟩,by simp only[Zm206_2];omega⟩)⟩
  rw[idxI_found (i:=i.toNat) (by omega) h (fun j hj=>hR j (by omega))]
  omega
 ·have hc:=of_decide_eq_false hc
  exact Lf_i (idxI_none (fun j hj=>hR j (by omega))).symm
def Zh206:HH:=⟨_,Zo206⟩
def Zk263:Con UU where
 α:=DTask×DFact
 md:=[.ro,.ro]
 of:=oC (oA .eTask) (o1 (oP .eFact))
 ds:=fun x=>[dA .eTask x.1,dP .eFact x.2]
 pre:=fun _=>[]
 res:=fun(t,f)=>⟨[dO (decide (t.F=f))],true,[]⟩
 law:=lC (lA .eTask) (l1 (lP .eFact))
def Za263:Zk263.α→Nat→Option (Ann UU):=fun(t,f)=>annL []
def Zu263:=us [Zh86]
theorem Zo263:Holds EE (263,Zk263):=by
 refine holds_of EE_ok func263 Zk263 (by kernel_rfl) Zu263 (us_ok _) Za263 (fun x hp hb=> ?_)
 obtain⟨t,f⟩:=x
 have hz0:=bd_eTask (x:=t) (hb _ m0)
 have hl_t_F_Kind:=hz0.1
 have hl_t_F_Fields:=hz0.2.1
 have hl_t_Undo:=hz0.2.2.1
 have hl_t_V_S:=hz0.2.2.2
 have hz1:=bdP_eFact (x:=f) (hb _ m1)
 have hl_f_Kind:=hz1.1
 have hl_f_Fields:=hz1.2
 clear hp hb
 apply @ve _ (Lb (decide (t.F=f)) (decide (t.F=f))) (by kernel_rfl)
 exact Lf_rfl _
def Zh263:HH:=⟨_,Zo263⟩
def Zk201:Con UU where
 α:=(List DTask)×DFact
 md:=[.ro,.ro]
 of:=oC (oL .eTask) (o1 (oA .eFact))
 ds:=fun x=>[dL .eTask x.1,dA .eFact x.2]
 pre:=fun _=>[]
 res:=fun(l,f)=>⟨[dI (placeOf l f)],true,[]⟩
 law:=lC (lL .eTask) (l1 (lA .eFact))
def Za201:Zk201.α→Nat→Option (Ann UU):=fun(l,f)=>annL []
def Zu201:=us [Zh206,Zh263]
theorem Zo201:Holds EE (201,Zk201):=by
 refine holds_of EE_ok func201 Zk201 (by kernel_rfl) Zu201 (us_ok _) Za201 (fun x hp hb=> ?_)
 obtain⟨l,f⟩:=x
 have hl_l:l.length≤9223372036854775807:=bdL (hb _ m0)
 have hz1:=bd_eFact (x:=f) (hb _ m1)
 have hl_f_Kind:=hz1.1
 have hl_f_Fields:=hz1.2
 clear hp hb
 apply @ve _ ((∀(j:Nat),j<l.length→closP Zk263 [DV.ptr [CS f.Kind,CL .eVal f.Fields]] [daTask (List.getD l j zTask)]=some (Value.bool (boolOf (closP Zk263 [DV.ptr [CS f.Kind,CL .eVal f.Fields]] [daTask (List.getD l j zTask)]))))∧Li (idxI (l.length) fun(j:Nat)=>boolOf (closP Zk263 [DV.ptr [CS f.Kind,CL .eVal f.Fields]] [daTask (List.getD l j zTask)])) (placeOf l f)) (by kernel_rfl)
 have hc:∀x:DTask,closP Zk263 [.ptr [.lit (.string f.Kind),.sl .eVal f.Fields]] [daTask x]=some (.bool (decide (x.F=f))):=fun x=>closP_of (x:=(x,f)) rfl rfl rfl rfl (by simp[Zk263])
 refine⟨fun j hj=> ?_,Lf_i ?_⟩
 ·show closP Zk263 [.ptr [.lit (.string f.Kind),.sl .eVal f.Fields]] [daTask (List.getD l j zTask)]=_
  rw[hc];rfl
 ·exact idxI_congr fun j hj=>by
   show boolOf (closP Zk263 [.ptr [.lit (.string f.Kind),.sl .eVal f.Fields]] [daTask (List.getD l j zTask)])=_
   rw[hc];rfl
def Zh201:HH:=⟨_,Zo201⟩
def Zk129:Con UU where
 α:=(List DTask)
 md:=[.ro]
 of:=o1 (oL .eTask)
 ds:=fun x=>[dL .eTask x]
 pre:=fun _=>[]
 res:=fun l=>⟨[dO (tasksOk l)],true,[]⟩
 law:=l1 (lL .eTask)
def Zi129_4(l:(List DTask)):Int×Unit→Prop:=fun(i,_)=>0≤i∧i≤l.length∧l.length≤30∧∀j:Nat,(j:Int)<i→taskAt l j=true
def Zm129_4(l:(List DTask)):Int×Unit→Nat:=fun(i,_)=>l.length-i.toNat
def Za129:Zk129.α→Nat→Option (Ann UU):=fun l=>annL [(4,annOf [.slot 10 (10,1024) (.lit (.int .i64))] (fun _=>Zi129_4 l) (Zm129_4 l))]
def Zu129:=us [Zh200,Zh201]
theorem Zo129:Holds EE (129,Zk129):=by
 refine holds_of EE_ok func129 Zk129 (by kernel_rfl) Zu129 (us_ok _) Za129 (fun(l:(List DTask)) hp hb=> ?_)
 have hl_l:l.length≤9223372036854775807:=bdL (hb _ m0)
 clear hp hb
 apply @ve _ (let x0:Int:=(l.length:Int);bif decide (x0>(30:Int)) then Lb false (tasksOk l) else Zi129_4 l ((0:Int),())∧∀(y:Int×PUnit),Zi129_4 l y→bif decide (y.1<x0) then(0:Int)≤y.1∧y.1.toNat<l.length∧bif !taskOk (List.getD l y.1.toNat zTask) then Lb false (tasksOk l) else bif placeOf l (List.getD l y.1.toNat zTask).F !=y.1 then Lb false (tasksOk l) else Zi129_4 l (IntKind.wrap IntKind.i64 (y.1+(1:Int)),())∧Zm129_4 l (IntKind.wrap IntKind.i64 (y.1+(1:Int)),())<Zm129_4 l y else Lb true (tasksOk l)) (by kernel_rfl)
 dsimp only
 refine if_cond (fun h=>Lf_ff ?_) (fun h=>⟨⟨by omega,by omega,by have h:=of_decide_eq_false h;omega,by intro j hj;omega⟩,?_⟩)
 ·have h:=of_decide_eq_true h;simp only[tasksOk];rw[decide_eq_false (by omega)];rfl
 rintro⟨i,⟨⟩⟩ ⟨h1,h2,h3,hR⟩
 simp only
 refine if_cond (fun hc=> ?_) (fun hc=> ?_)
 ·have hc:=of_decide_eq_true hc
  have hN:taskAt l i.toNat=false→tasksOk l=false:=fun h=>by
   have hf:allI l.length (taskAt l)=false:=allI_false (j:=i.toNat) (by omega) h
   simp only[tasksOk,hf];simp
  have hpl:(placeOf l (List.getD l i.toNat zTask).F=i)↔(anyI i.toNat fun k=>decide ((List.getD l k zTask).F=(List.getD l i.toNat zTask).F))=false:=by
   rw[anyI_not]
   unfold placeOf
   rcases idxI_cases l.length (fun k=>decide ((List.getD l k zTask).F=(List.getD l i.toNat zTask).F)) with⟨g1,g2⟩|⟨m,g1,g2,g3,g4⟩
   ·have:=g2 i.toNat (by omega);simp at this
   ·rw[g2]
    constructor
    ·intro e j hj;exact g4 j (by omega)
    ·intro e
     by_cases hm:m<i.toNat
     ·have:=e m hm;rw[g3] at this;cases this
     ·by_cases hm':i.toNat<m
      ·have:=g4 i.toNat hm';simp at this
      ·omega
  simp(disch:=omega) only[wrap_i64]
  have hm:Zm129_4 l (i+1,PUnit.unit)<Zm129_4 l (i,()):=by simp only[Zm129_4];omega
  refine⟨by omega,by omega,if_cond (fun h=>Lf_ff (hN ?_)) (fun h=>if_cond (fun h'=>Lf_ff (hN ?_)) (fun h'=>⟨⟨by omega,by omega,h3,upto_step h1 hR ?_⟩,hm⟩))⟩
  ·simp only[taskAt];grind
  ·have:¬(placeOf l (List.getD l i.toNat zTask).F=i):=by simpa using h'
   rw[hpl] at this
   simp only[taskAt];grind
  ·have:placeOf l (List.getD l i.toNat zTask).F=i:=by simpa using h'
   rw[hpl] at this
   simp only[taskAt,this];grind
 ·have hc:=of_decide_eq_false hc
  have hA:allI l.length (taskAt l)=true:=allI_true fun j hj=>hR j (by omega)
  refine Lf_b ?_
  simp only[tasksOk,hA];grind
def Zh129:HH:=⟨_,Zo129⟩
def Zk115:Con UU where
 α:=(List DTask)
 md:=[.ro]
 of:=o1 (oL .eTask)
 ds:=fun x=>[dL .eTask x]
 pre:=fun _=>[]
 res:=fun l=>⟨[dO (tasksOk l)],true,[]⟩
 law:=l1 (lL .eTask)
def Zi115_2(l:(List DTask)):Int×Unit→Prop:=fun(i,_)=>0≤i∧i≤l.length∧∀j:Nat,(j:Int)<i→taskAt l j=true
def Zm115_2(l:(List DTask)):Int×Unit→Nat:=fun(i,_)=>l.length-i.toNat
def Zi115_7(l:(List DTask)):Int×Int×Unit→Int×Int×Unit→Prop:=fun(i0,k0,_) (i,k,_)=>i=i0∧0≤k∧k≤i∧∀j:Nat,(j:Int)<k→decide ((List.getD l j zTask).F=(List.getD l i.toNat zTask).F)=false
def Zm115_7(l:(List DTask)):Int×Int×Unit→Nat:=fun(i,k,_)=>i.toNat-k.toNat
def Za115:Zk115.α→Nat→Option (Ann UU):=fun l=>annL [(2,annOf [.slot 3 (3,1024) (.lit (.int .i64))] (fun _=>Zi115_2 l) (Zm115_2 l)),(7,annOf [.slot 3 (3,1024) (.lit (.int .i64)),.slot 4 (4,1024) (.lit (.int .i64))] (Zi115_7 l) (Zm115_7 l))]
def Zu115:=us [Zh185,Zh186]
theorem Zo115:Holds EE (115,Zk115):=by
 refine holds_of EE_ok func115 Zk115 (by kernel_rfl) Zu115 (us_ok _) Za115 (fun(l:(List DTask)) hp hb=> ?_)
 have hl_l:l.length≤9223372036854775807:=bdL (hb _ m0)
 clear hp hb
 apply @ve _ (let x0:Int:=(l.length:Int);Zi115_2 l ((0:Int),())∧∀(y:Int×PUnit),Zi115_2 l y→bif decide (y.1<x0) then(0:Int)≤y.1∧y.1.toNat<l.length∧bif !taskOk (List.getD l y.1.toNat zTask) then Lb false (tasksOk l) else Zi115_7 l (y.1,(0:Int),()) (y.1,(0:Int),())∧∀(y_1:Int×Int×PUnit),let x1:Nat:=y_1.2.1.toNat;Zi115_7 l (y.1,(0:Int),()) y_1→bif decide (y_1.2.1<y_1.1) then(0:Int)≤y_1.1∧y_1.1.toNat<l.length∧(0:Int)≤y_1.2.1∧x1<l.length∧bif decide ((List.getD l y_1.1.toNat zTask).F=(List.getD l x1 zTask).F) then Lb false (tasksOk l) else Zi115_7 l (y.1,(0:Int),()) (y_1.1,IntKind.wrap IntKind.i64 (y_1.2.1+(1:Int)),())∧Zm115_7 l (y_1.1,IntKind.wrap IntKind.i64 (y_1.2.1+(1:Int)),())<Zm115_7 l y_1 else Zi115_2 l (IntKind.wrap IntKind.i64 (y_1.1+(1:Int)),())∧Zm115_2 l (IntKind.wrap IntKind.i64 (y_1.1+(1:Int)),())<Zm115_2 l y else Lb (decide (x0≤(30:Int))) (tasksOk l)) (by kernel_rfl)
 dsimp only
 refine⟨⟨by omega,by omega,by intro j hj;omega⟩,?_⟩
 rintro⟨i,⟨⟩⟩ ⟨h1,h2,hR⟩
 simp only
 refine if_cond (fun hc=> ?_) (fun hc=> ?_)
 ·have hc:=of_decide_eq_true hc
  have hN:taskAt l i.toNat=false→tasksOk l=false:=fun h=>by
   have hf:allI l.length (taskAt l)=false:=allI_false (j:=i.toNat) (by omega) h
   simp only[tasksOk,hf];simp
  have hm:Zm115_2 l (i+1,PUnit.unit)<Zm115_2 l (i,()):=by simp only[Zm115_2];omega
  refine⟨by omega,by omega,if_cond (fun h=>Lf_ff (hN ?_)) (fun h=>⟨⟨rfl,by omega,by omega,by intro j hj;omega⟩,?_⟩)⟩
  ·simp only[taskAt];grind
  rintro⟨i,k,⟨⟩⟩ ⟨rfl,g1,g2,gR⟩
  simp only
  refine if_cond (fun hk=> ?_) (fun hk=> ?_)
  ·have hk:=of_decide_eq_true hk
   simp(disch:=omega) only[wrap_i64]
   refine⟨by omega,by omega,by omega,by omega,if_cond (fun h''=>Lf_ff (hN ?_)) (fun h''=>⟨⟨rfl,by omega,by omega,upto_no g1 gR ?_⟩,by simp only[Zm115_7];omega⟩)⟩
   ·have ha:(anyI i.toNat fun k=>decide ((List.getD l k zTask).F=(List.getD l i.toNat zTask).F))=true:=anyI_true (j:=k.toNat) (by omega) (by grind)
    simp only[taskAt,ha];simp
   ·grind
  ·have hk:=of_decide_eq_false hk
   simp(disch:=omega) only[wrap_i64]
   refine⟨⟨by omega,by omega,upto_step h1 hR ?_⟩,hm⟩
   have ha:(anyI i.toNat fun k=>decide ((List.getD l k zTask).F=(List.getD l i.toNat zTask).F))=false:=anyI_false fun j hj=>gR j (by omega)
   simp only[taskAt,ha];grind
 ·have hc:=of_decide_eq_false hc
  have hA:allI l.length (taskAt l)=true:=allI_true fun j hj=>hR j (by omega)
  refine Lf_b ?_
  simp only[tasksOk,hA];grind
def Zh115:HH:=⟨_,Zo115⟩
def largeB(b:Int):Bool:=decide (65≤b∧b≤90)
def varB(b:Int):Bool:=wordB b||largeB b
def varOk(s:ByteArray):Bool:=decide (1≤s.size∧s.size≤12)&&largeB (List.getD (bs s) 0 0).toNat&&(bs s).all (byteP varB)
def argOk(a:DArg):Bool:=bif decide (a.K=1) then varOk a.S&&decide (a.V=zVal) else bif decide (a.K=2) then valOk a.V&&decide (a.S=noBytes) else bif decide (a.K=3) then decide (a.S=noBytes)&&decide (a.V=zVal) else false
def termOk(a:DArg):Bool:=argOk a&& !decide (a.K=3)
def patOk(p:DPat):Bool:=nameOk p.Kind&&decide (p.Args.length≤5)&&p.Args.all argOk
def kondOk(c:DCond):Bool:=decide (1≤c.Op∧c.Op≤3)&&termOk c.L&&termOk c.R
def bPlus:ByteArray:=⟨#[43]⟩
def bMinus:ByteArray:=⟨#[45]⟩
def exprOk(e:DExpr):Bool:=bif decide (e.Op=noBytes) then termOk e.L&&decide (e.R=zArg) else bif decide (e.Op=bPlus)||decide (e.Op=bMinus) then termOk e.L&&termOk e.R else false
def exprsOk(l:List DExpr):Bool:=decide (l.length≤5)&&l.all exprOk
def bareA(a:DAct):Bool:=decide (a.Name=noBytes)&&decide (a.Args.length=0)&&decide (a.Undo=noBytes)
def actOk(a:DAct):Bool:=
 bif decide (a.Kind=1) then nameOk a.Name&&exprsOk a.Args&&decide (a.N=0)&&decide (a.Undo=noBytes)
 else bif decide (a.Kind=2) then bareA a&&decide (0≤a.N∧a.N≤7)
 else bif decide (a.Kind=3) then nameOk a.Name&&exprsOk a.Args&&decide (a.N=0)&&undoOk a.Undo
 else bif decide (a.Kind=4) then nameOk a.Name&&exprsOk a.Args&&decide (0≤a.N∧a.N≤100000)&&decide (a.Undo=noBytes)
 else bif decide (a.Kind=5)||decide (a.Kind=6) then bareA a&&decide (a.N=0) else false
theorem argR_beq(a b:DArg):(a.K==b.K&&(ByteArray.toList a.S==ByteArray.toList b.S&&(a.V.K==b.V.K&&(a.V.N==b.V.N&&(ByteArray.toList a.V.S==ByteArray.toList b.V.S&&true))&&true)))=decide (a=b):=by
 obtain⟨K,S,K2,N2,S2⟩:=a
 obtain⟨K',S',K2',N2',S2'⟩:=b
 simp only[toList_beq,zdb]
 rw[zcm]
 simp only[zaf,beq_iff_eq,decide_eq_true_eq,DArg.mk.injEq,DVal.mk.injEq]
def Zk304:Con UU where
 α:=Int
 md:=[.ro]
 of:=o1 oY
 ds:=fun x=>[dY x]
 pre:=fun _=>[]
 res:=fun b=>⟨[dO (largeB b)],true,[]⟩
 law:=l1 lY
def Za304:Zk304.α→Nat→Option (Ann UU):=fun b=>annL []
def Zu304:List (FuncId×Con UU):=[]
theorem Zo304:Holds EE (304,Zk304):=by
 refine holds_of EE_ok func304 Zk304 (by kernel_rfl) Zu304 all_nil Za304 (fun(b:Int) hp hb=> ?_)
 skip
 clear hp hb
 apply @ve _ (bif decide (b≥(65:Int)) then Lb (decide (b≤(90:Int))) (largeB b) else Lb false (largeB b)) (by kernel_rfl)
 refine if_cond (fun h=>Lf_b ?_) (fun h=>Lf_b ?_)<;>grind [largeB]
def Zh304:HH:=⟨_,Zo304⟩
def Zk314:Con UU where
 α:=Int
 md:=[.ro]
 of:=o1 oY
 ds:=fun x=>[dY x]
 pre:=fun c=>[0≤c∧c≤255]
 res:=fun c=>⟨[dO (largeB c)],true,[]⟩
 law:=l1 lY
def Za314:Zk314.α→Nat→Option (Ann UU):=fun c=>annL []
def Zu314:=us [Zh104]
theorem Zo314:Holds EE (314,Zk314):=by
 refine holds_of EE_ok func314 Zk314 (by kernel_rfl) Zu314 (us_ok _) Za314 (fun(c:Int) hp hb=> ?_)
 have hp0:0≤c∧c≤255:=hp _ m0
 clear hp hb
 apply @ve _ (Lb (decide ((65:Int)≤IntKind.wrap IntKind.i64 c∧IntKind.wrap IntKind.i64 c≤(90:Int))) (largeB c)) (by kernel_rfl)
 rw[wrap_i64 (by omega) (by omega)]
 exact Lf_b rfl
def Zh314:HH:=⟨_,Zo314⟩
def Zk307:Con UU where
 α:=ByteArray
 md:=[.ro]
 of:=o1 oS
 ds:=fun x=>[dS x]
 pre:=fun _=>[]
 res:=fun s=>⟨[dO (varOk s)],true,[]⟩
 law:=l1 lS
def Zi307_2(s:ByteArray):Int×Unit→Prop:=fun(i,_)=>0≤i∧i≤s.size∧((bs s).drop i.toNat).all (byteP varB)=(bs s).all (byteP varB)∧(0<i→largeB (List.getD (bs s) 0 0).toNat=true)
def Zm307_2(s:ByteArray):Int×Unit→Nat:=fun(i,_)=>s.size-i.toNat
def Za307:Zk307.α→Nat→Option (Ann UU):=fun s=>annL [(2,annOf [.slot 3 (3,1024) (.lit (.int .i64))] (fun _=>Zi307_2 s) (Zm307_2 s))]
def Zu307:=us [Zh314,Zh174,Zh104]
theorem Zo307:Holds EE (307,Zk307):=by
 refine holds_of EE_ok func307 Zk307 (by kernel_rfl) Zu307 (us_ok _) Za307 (fun(s:ByteArray) hp hb=> ?_)
 have hl_s:=bdS (s:=s) (hb _ m0)
 clear hp hb
 apply @ve _ (Zi307_2 s ((0:Int),())∧∀(y:Int×PUnit),let x0:Int:=(↑(UInt8.toNat (List.getD s.data.toList y.1.toNat (0:UInt8))):Int);Zi307_2 s y→bif decide (y.1<(↑(ByteArray.size s):Int)) then(0:Int)≤y.1∧y.1.toNat<ByteArray.size s∧((0:Int)≤x0∧x0≤(255:Int))∧bif !largeB x0 then bif y.1==(0:Int) then Lb false (varOk s) else(0:Int)≤y.1∧y.1.toNat<ByteArray.size s∧((0:Int)≤x0∧x0≤(255:Int))∧bif !wordB x0 then Lb false (varOk s) else Zi307_2 s (IntKind.wrap IntKind.i64 (y.1+(1:Int)),())∧Zm307_2 s (IntKind.wrap IntKind.i64 (y.1+(1:Int)),())<Zm307_2 s y else Zi307_2 s (IntKind.wrap IntKind.i64 (y.1+(1:Int)),())∧Zm307_2 s (IntKind.wrap IntKind.i64 (y.1+(1:Int)),())<Zm307_2 s y else Lb (decide ((1:Int)≤(↑(ByteArray.size s):Int)∧(↑(ByteArray.size s):Int)≤(12:Int))) (varOk s)) (by kernel_rfl)
 dsimp only
 refine⟨⟨by omega,by omega,rfl,by omega⟩,?_⟩
 rintro⟨i,⟨⟩⟩ ⟨h1,h2,hR,hS⟩
 have hl:=bs_len s
 simp only[bs_eq]
 refine if_cond (fun hc=> ?_) (fun hc=> ?_)
 ·have hc:=of_decide_eq_true hc
  have hb:=(List.getD (bs s) i.toNat 0).toNat_lt
  rw[all_step _ _ 0 h1 (by omega)] at hR
  rw[wrap_i64 (by omega) (by omega)]
  have hN:(bs s).all (byteP varB)=false→varOk s=false:=fun h=>by simp[varOk,h]
  have hm:Zm307_2 s (i+1,PUnit.unit)<Zm307_2 s (i,()):=by simp only[Zm307_2];omega
  refine⟨by omega,by omega,⟨by omega,by omega⟩,if_cond (fun h=>if_cond (fun h'=>Lf_ff ?_) (fun h'=>⟨by omega,by omega,⟨by omega,by omega⟩,if_cond (fun h''=>Lf_ff (hN ?_)) (fun h''=>⟨⟨by omega,by omega,?_,fun _=>hS ?_⟩,hm⟩)⟩)) (fun h=>⟨⟨by omega,by omega,?_,fun _=> ?_⟩,hm⟩)⟩
  ·have h':i=0:=by simpa using h'
   subst h'
   have h:largeB ((List.getD (bs s) 0 0).toNat:Int)=false:=by simpa using h
   simp only[varOk,h];simp
  ·rw[←hR];simp only[byteP,varB];simp at h h'';simp[h,h'']
  ·rw[←hR];simp only[byteP,varB];simp at h h'';simp[h,h'']
  ·have h':¬i=0:=by simpa using h'
   omega
  ·rw[←hR];simp only[byteP,varB];simp at h;simp[h]
  ·by_cases hz:i=0
   ·subst hz;simpa using h
   ·exact hS (by omega)
 ·have hc:=of_decide_eq_false hc
  rw[drop_end _ (by omega)] at hR
  refine Lf_b ?_
  simp only[varOk,←hR]
  by_cases hz:0<i
  ·rw[hS hz];simp only[zes];grind
  ·rw[decide_eq_false (by omega),decide_eq_false (by omega)];rfl
def Zh307:HH:=⟨_,Zo307⟩
def Zk279:Con UU where
 α:=ByteArray
 md:=[.ro]
 of:=o1 oS
 ds:=fun x=>[dS x]
 pre:=fun _=>[]
 res:=fun s=>⟨[dO (varOk s)],true,[]⟩
 law:=l1 lS
def Zi279_4(s:ByteArray):Int×Unit→Prop:=fun(i,_)=>0≤i∧i≤s.size∧1≤s.size∧s.size≤12∧largeB (List.getD (bs s) 0 0).toNat=true∧((bs s).drop i.toNat).all (byteP varB)=(bs s).all (byteP varB)
def Zm279_4(s:ByteArray):Int×Unit→Nat:=fun(i,_)=>s.size-i.toNat
def Za279:Zk279.α→Nat→Option (Ann UU):=fun s=>annL [(4,annOf [.slot 3 (3,1024) (.lit (.int .i64))] (fun _=>Zi279_4 s) (Zm279_4 s))]
def Zu279:=us [Zh304,Zh164]
theorem Zo279:Holds EE (279,Zk279):=by
 refine holds_of EE_ok func279 Zk279 (by kernel_rfl) Zu279 (us_ok _) Za279 (fun(s:ByteArray) hp hb=> ?_)
 have hl_s:=bdS (s:=s) (hb _ m0)
 clear hp hb
 apply @ve _ (bif decide ((↑(ByteArray.size s):Int)<(1:Int)) then Lb false (varOk s) else bif decide ((↑(ByteArray.size s):Int)>(12:Int)) then Lb false (varOk s) else(0:Int)≤(0:Int)∧Int.toNat (0:Int)<ByteArray.size s∧bif !largeB (↑(UInt8.toNat (List.getD s.data.toList (Int.toNat (0:Int)) (0:UInt8))):Int) then Lb false (varOk s) else Zi279_4 s ((0:Int),())∧∀(y:Int×PUnit),let x0:Int:=(↑(UInt8.toNat (List.getD s.data.toList y.1.toNat (0:UInt8))):Int);Zi279_4 s y→bif decide (y.1<(↑(ByteArray.size s):Int)) then(0:Int)≤y.1∧y.1.toNat<ByteArray.size s∧bif !wordB x0 then(0:Int)≤y.1∧y.1.toNat<ByteArray.size s∧bif !largeB x0 then Lb false (varOk s) else Zi279_4 s (IntKind.wrap IntKind.i64 (y.1+(1:Int)),())∧Zm279_4 s (IntKind.wrap IntKind.i64 (y.1+(1:Int)),())<Zm279_4 s y else Zi279_4 s (IntKind.wrap IntKind.i64 (y.1+(1:Int)),())∧Zm279_4 s (IntKind.wrap IntKind.i64 (y.1+(1:Int)),())<Zm279_4 s y else Lb true (varOk s)) (by kernel_rfl)
 dsimp only
 have hl:=bs_len s
 simp only[bs_eq]
 refine if_cond (fun h=>Lf_ff ?_) (fun h=>if_cond (fun h'=>Lf_ff ?_) (fun h'=> ?_))
 ·have h:=of_decide_eq_true h;simp only[varOk];rw[decide_eq_false (by omega)];rfl
 ·have h':=of_decide_eq_true h';simp only[varOk];rw[decide_eq_false (by omega)];rfl
 have h:=of_decide_eq_false h
 have h':=of_decide_eq_false h'
 refine⟨by omega,by omega,if_cond (fun g=>Lf_ff ?_) (fun g=>⟨⟨by omega,by omega,by omega,by omega,by simpa using g,rfl⟩,?_⟩)⟩
 ·have g:largeB ((List.getD (bs s) 0 0).toNat:Int)=false:=by simpa using g
  simp only[varOk,g];simp
 rintro⟨i,⟨⟩⟩ ⟨h1,h2,h3,h4,hS,hR⟩
 simp only
 refine if_cond (fun hc=> ?_) (fun hc=> ?_)
 ·have hc:=of_decide_eq_true hc
  rw[all_step _ _ 0 h1 (by omega)] at hR
  rw[wrap_i64 (by omega) (by omega)]
  have hN:(bs s).all (byteP varB)=false→varOk s=false:=fun h=>by simp[varOk,h]
  have hm:Zm279_4 s (i+1,PUnit.unit)<Zm279_4 s (i,()):=by simp only[Zm279_4];omega
  refine⟨by omega,by omega,if_cond (fun h=>⟨by omega,by omega,if_cond (fun h''=>Lf_ff (hN ?_)) (fun h''=>⟨⟨by omega,by omega,h3,h4,hS,?_⟩,hm⟩)⟩) (fun h=>⟨⟨by omega,by omega,h3,h4,hS,?_⟩,hm⟩)⟩
  ·rw[←hR];simp only[byteP,varB];simp at h h'';simp[h,h'']
  ·rw[←hR];simp only[byteP,varB];simp at h h'';simp[h,h'']
  ·rw[←hR];simp only[byteP,varB];simp at h;simp[h]
 ·have hc:=of_decide_eq_false hc
  rw[drop_end _ (by omega)] at hR
  refine Lf_tt ?_
  simp only[varOk,←hR,hS,decide_eq_true (show 1≤s.size∧s.size≤12 from⟨h3,h4⟩)];rfl
def Zh279:HH:=⟨_,Zo279⟩
def Zk283:Con UU where
 α:=DArg
 md:=[.ro]
 of:=o1 (oA .eArg)
 ds:=fun x=>[dA .eArg x]
 pre:=fun _=>[]
 res:=fun a=>⟨[dO (argOk a)],true,[]⟩
 law:=l1 (lA .eArg)
def Za283:Zk283.α→Nat→Option (Ann UU):=fun a=>annL []
def Zu283:=us [Zh307,Zh254]
theorem Zo283:Holds EE (283,Zk283):=by
 refine holds_of EE_ok func283 Zk283 (by kernel_rfl) Zu283 (us_ok _) Za283 (fun(a:DArg) hp hb=> ?_)
 have hz0:=bd_eArg (x:=a) (hb _ m0)
 have hl_a_S:=hz0.1
 have hl_a_V_S:=hz0.2
 clear hp hb
 apply @ve _ (let x0:Bool:=ByteArray.toList a.S==ByteArray.toList {data:= #[]:ByteArray};bif a.K==(1:Int) then bif varOk a.S then Lb (a.V.K==(0:Int)&&(a.V.N==(0:Int)&&(ByteArray.toList a.V.S==ByteArray.toList {data:= #[]:ByteArray}&&true))) (argOk a) else Lb false (argOk a) else bif a.K==(2:Int) then bif valOk a.V then Lb x0 (argOk a) else Lb false (argOk a) else bif a.K==(3:Int) then bif x0 then Lb (a.V.K==(0:Int)&&(a.V.N==(0:Int)&&(ByteArray.toList a.V.S==ByteArray.toList {data:= #[]:ByteArray}&&true))) (argOk a) else Lb false (argOk a) else Lb false (argOk a)) (by kernel_rfl)
 dsimp only
 have ev:∀v:DVal,(v.K==0&&(v.N==0&&(ByteArray.toList v.S==ByteArray.toList {data:= #[]}&&true)))=decide (v=zVal):=fun v=>val_beq v zVal
 have e:∀s:ByteArray,(ByteArray.toList s==ByteArray.toList {data:= #[]})=decide (s=noBytes):=fun s=>toList_beq _ _
 simp only[ev,e,argOk]
 repeat' (refine if_cond (fun h=> ?_) (fun h=> ?_))
 all_goals (refine Lf_b ?_;grind)
def Zh283:HH:=⟨_,Zo283⟩
def Zk237:Con UU where
 α:=DArg
 md:=[.ro]
 of:=o1 (oA .eArg)
 ds:=fun x=>[dA .eArg x]
 pre:=fun _=>[]
 res:=fun a=>⟨[dO (argOk a)],true,[]⟩
 law:=l1 (lA .eArg)
def Za237:Zk237.α→Nat→Option (Ann UU):=fun a=>annL []
def Zu237:=us [Zh279,Zh107]
theorem Zo237:Holds EE (237,Zk237):=by
 refine holds_of EE_ok func237 Zk237 (by kernel_rfl) Zu237 (us_ok _) Za237 (fun(a:DArg) hp hb=> ?_)
 have hz0:=bd_eArg (x:=a) (hb _ m0)
 have hl_a_S:=hz0.1
 have hl_a_V_S:=hz0.2
 clear hp hb
 apply @ve _ (let x0:Bool:=ByteArray.toList a.S==ByteArray.toList {data:= #[]:ByteArray};bif a.K==(1:Int) then bif varOk a.S then Lb (a.V.K==(0:Int)&&(a.V.N==(0:Int)&&(ByteArray.toList a.V.S==ByteArray.toList {data:= #[]:ByteArray}&&true))) (argOk a) else Lb false (argOk a) else bif a.K==(2:Int) then bif x0 then Lb (valOk a.V) (argOk a) else Lb false (argOk a) else bif a.K==(3:Int) then bif x0 then Lb (a.V.K==(0:Int)&&(a.V.N==(0:Int)&&(ByteArray.toList a.V.S==ByteArray.toList {data:= #[]:ByteArray}&&true))) (argOk a) else Lb false (argOk a) else Lb false (argOk a)) (by kernel_rfl)
 dsimp only
 have ev:∀v:DVal,(v.K==0&&(v.N==0&&(ByteArray.toList v.S==ByteArray.toList {data:= #[]}&&true)))=decide (v=zVal):=fun v=>val_beq v zVal
 have e:∀s:ByteArray,(ByteArray.toList s==ByteArray.toList {data:= #[]})=decide (s=noBytes):=fun s=>toList_beq _ _
 simp only[ev,e,argOk]
 repeat' (refine if_cond (fun h=> ?_) (fun h=> ?_))
 all_goals (refine Lf_b ?_;grind)
def Zh237:HH:=⟨_,Zo237⟩
def Zk241:Con UU where
 α:=DPat
 md:=[.ro]
 of:=o1 (oA .ePat)
 ds:=fun x=>[dA .ePat x]
 pre:=fun _=>[]
 res:=fun p=>⟨[dO (patOk p)],true,[]⟩
 law:=l1 (lA .ePat)
def Zi241_2(p:DPat):Int×(ByteArray×List DArg×Bool×Unit)×Unit→Prop:=fun(i,b,_)=>b=(p.Kind,p.Args,p.Not,())∧0≤i∧i≤p.Args.length∧(p.Args.drop i.toNat).all argOk=p.Args.all argOk
def Zm241_2(p:DPat):Int×(ByteArray×List DArg×Bool×Unit)×Unit→Nat:=fun(i,b,_)=>p.Args.length-i.toNat
def Za241:Zk241.α→Nat→Option (Ann UU):=fun p=>annL [(2,annOf [.slot 3 (3,1024) (.lit (.int .i64)),.box 1 (1,1024) [.lit .str,.shr .eArg,.lit .bool]] (fun _=>Zi241_2 p) (Zm241_2 p))]
def Zu241:=us [Zh283,Zh103]
theorem Zo241:Holds EE (241,Zk241):=by
 refine holds_of EE_ok func241 Zk241 (by kernel_rfl) Zu241 (us_ok _) Za241 (fun(p:DPat) hp hb=> ?_)
 have hz0:=bd_ePat (x:=p) (hb _ m0)
 have hl_p_Kind:=hz0.1
 have hl_p_Args:=hz0.2
 clear hp hb
 apply @ve _ (Zi241_2 p ((0:Int),(p.Kind,p.Args,p.Not,()),())∧∀(y:Int×(ByteArray×List DArg×Bool×PUnit)×PUnit),let x1:Nat:=y.2.1.2.1.length;let x0:Int:=(↑x1:Int);Zi241_2 p y→bif decide (y.1<x0) then(0:Int)≤y.1∧y.1.toNat<x1∧bif !argOk (List.getD y.2.1.2.1 y.1.toNat zArg) then Lb false (patOk p) else Zi241_2 p (IntKind.wrap IntKind.i64 (y.1+(1:Int)),(y.2.1.1,y.2.1.2.1,y.2.1.2.2.1,()),())∧Zm241_2 p (IntKind.wrap IntKind.i64 (y.1+(1:Int)),(y.2.1.1,y.2.1.2.1,y.2.1.2.2.1,()),())<Zm241_2 p y else bif nameOk y.2.1.1 then Lb (decide (x0≤(5:Int))) (patOk p) else Lb false (patOk p)) (by kernel_rfl)
 dsimp only
 refine⟨⟨rfl,by omega,by omega,rfl⟩,?_⟩
 rintro⟨i,⟨bk,ba,bn,⟨⟩⟩,⟨⟩⟩ ⟨hbx,h1,h2,hR⟩
 cases hbx
 simp only
 refine if_cond (fun hc=> ?_) (fun hc=> ?_)
 ·have hc:=of_decide_eq_true hc
  rw[all_step _ _ zArg h1 (by omega)] at hR
  rw[wrap_i64 (by omega) (by omega)]
  refine⟨by omega,by omega,if_cond (fun h=>Lf_ff ?_) (fun h=>⟨⟨rfl,by omega,by omega,?_⟩,?_⟩)⟩
  ·simp only[patOk,←hR];simp at h;simp[h]
  ·rw[←hR];simp at h;simp[h]
  ·simp only[Zm241_2];omega
 ·have hc:=of_decide_eq_false hc
  rw[drop_end _ (by omega)] at hR
  simp only[patOk,←hR,zes]
  repeat' (refine if_cond (fun h=> ?_) (fun h=> ?_))
  all_goals (refine Lf_b ?_;grind)
def Zh241:HH:=⟨_,Zo241⟩
def Zk165:Con UU where
 α:=DPat
 md:=[.ro]
 of:=o1 (oA .ePat)
 ds:=fun x=>[dA .ePat x]
 pre:=fun _=>[]
 res:=fun p=>⟨[dO (patOk p)],true,[]⟩
 law:=l1 (lA .ePat)
def Zi165_4(p:DPat):Int×Unit→Prop:=fun(i,_)=>0≤i∧i≤p.Args.length∧p.Args.length≤5∧nameOk p.Kind=true∧(p.Args.drop i.toNat).all argOk=p.Args.all argOk
def Zm165_4(p:DPat):Int×Unit→Nat:=fun(i,_)=>p.Args.length-i.toNat
def Za165:Zk165.α→Nat→Option (Ann UU):=fun p=>annL [(4,annOf [.slot 18 (18,1024) (.lit (.int .i64))] (fun _=>Zi165_4 p) (Zm165_4 p))]
def Zu165:=us [Zh237,Zh33]
theorem Zo165:Holds EE (165,Zk165):=by
 refine holds_of EE_ok func165 Zk165 (by kernel_rfl) Zu165 (us_ok _) Za165 (fun(p:DPat) hp hb=> ?_)
 have hz0:=bd_ePat (x:=p) (hb _ m0)
 have hl_p_Kind:=hz0.1
 have hl_p_Args:=hz0.2
 clear hp hb
 apply @ve _ (let x0:Int:=(p.Args.length:Int);bif !nameOk p.Kind then Lb false (patOk p) else bif decide (x0>(5:Int)) then Lb false (patOk p) else Zi165_4 p ((0:Int),())∧∀(y:Int×PUnit),Zi165_4 p y→bif decide (y.1<x0) then(0:Int)≤y.1∧y.1.toNat<p.Args.length∧bif !argOk (List.getD p.Args y.1.toNat zArg) then Lb false (patOk p) else Zi165_4 p (IntKind.wrap IntKind.i64 (y.1+(1:Int)),())∧Zm165_4 p (IntKind.wrap IntKind.i64 (y.1+(1:Int)),())<Zm165_4 p y else Lb true (patOk p)) (by kernel_rfl)
 dsimp only
 refine if_cond (fun h=>Lf_ff ?_) (fun h=>if_cond (fun h'=>Lf_ff ?_) (fun h'=> ?_))
 ·simp only[patOk];simp at h;simp[h]
 ·have h':=of_decide_eq_true h';simp only[patOk];rw[decide_eq_false (show¬p.Args.length≤5 by omega)];simp
 have h':=of_decide_eq_false h'
 refine⟨⟨by omega,by omega,by omega,by simpa using h,rfl⟩,?_⟩
 rintro⟨i,⟨⟩⟩ ⟨h1,h2,h3,h4,hR⟩
 simp only
 refine if_cond (fun hc=> ?_) (fun hc=> ?_)
 ·have hc:=of_decide_eq_true hc
  rw[all_step _ _ zArg h1 (by omega)] at hR
  rw[wrap_i64 (by omega) (by omega)]
  refine⟨by omega,by omega,if_cond (fun h=>Lf_ff ?_) (fun h=>⟨⟨by omega,by omega,h3,h4,?_⟩,?_⟩)⟩
  ·simp only[patOk,←hR];simp at h;simp[h]
  ·rw[←hR];simp at h;simp[h]
  ·simp only[Zm165_4];omega
 ·have hc:=of_decide_eq_false hc
  rw[drop_end _ (by omega)] at hR
  refine Lf_tt ?_
  simp only[patOk,←hR,h4,decide_eq_true h3];rfl
def Zh165:HH:=⟨_,Zo165⟩
def Zk166:Con UU where
 α:=DArg
 md:=[.ro]
 of:=o1 (oA .eArg)
 ds:=fun x=>[dA .eArg x]
 pre:=fun _=>[]
 res:=fun a=>⟨[dO (termOk a)],true,[]⟩
 law:=l1 (lA .eArg)
def Za166:Zk166.α→Nat→Option (Ann UU):=fun a=>annL []
def Zu166:=us [Zh237]
theorem Zo166:Holds EE (166,Zk166):=by
 refine holds_of EE_ok func166 Zk166 (by kernel_rfl) Zu166 (us_ok _) Za166 (fun(a:DArg) hp hb=> ?_)
 have hz0:=bd_eArg (x:=a) (hb _ m0)
 have hl_a_S:=hz0.1
 have hl_a_V_S:=hz0.2
 clear hp hb
 apply @ve _ (bif a.K !=(3:Int) then Lb (argOk a) (termOk a) else Lb false (termOk a)) (by kernel_rfl)
 simp only[termOk]
 repeat' (refine if_cond (fun h=> ?_) (fun h=> ?_))
 all_goals (refine Lf_b ?_;grind)
def Zh166:HH:=⟨_,Zo166⟩
def Zk315:Con UU where
 α:=DArg
 md:=[.ro]
 of:=o1 (oA .eArg)
 ds:=fun x=>[dA .eArg x]
 pre:=fun _=>[]
 res:=fun a=>⟨[dO (termOk a)],true,[]⟩
 law:=l1 (lA .eArg)
def Za315:Zk315.α→Nat→Option (Ann UU):=fun a=>annL []
def Zu315:=us [Zh283]
theorem Zo315:Holds EE (315,Zk315):=by
 refine holds_of EE_ok func315 Zk315 (by kernel_rfl) Zu315 (us_ok _) Za315 (fun(a:DArg) hp hb=> ?_)
 have hz0:=bd_eArg (x:=a) (hb _ m0)
 have hl_a_S:=hz0.1
 have hl_a_V_S:=hz0.2
 clear hp hb
 apply @ve _ (bif argOk a then Lb (a.K !=(3:Int)) (termOk a) else Lb false (termOk a)) (by kernel_rfl)
 simp only[termOk]
 repeat' (refine if_cond (fun h=> ?_) (fun h=> ?_))
 all_goals (refine Lf_b ?_;grind)
def Zh315:HH:=⟨_,Zo315⟩
def Zk242:Con UU where
 α:=DCond
 md:=[.ro]
 of:=o1 (oA .eCond)
 ds:=fun x=>[dA .eCond x]
 pre:=fun _=>[]
 res:=fun c=>⟨[dO (kondOk c)],true,[]⟩
 law:=l1 (lA .eCond)
def Za242:Zk242.α→Nat→Option (Ann UU):=fun c=>annL []
def Zu242:=us [Zh104,Zh283]
theorem Zo242:Holds EE (242,Zk242):=by
 refine holds_of EE_ok func242 Zk242 (by kernel_rfl) Zu242 (us_ok _) Za242 (fun(c:DCond) hp hb=> ?_)
 have hz0:=bd_eCond (x:=c) (hb _ m0)
 have hl_c_L_S:=hz0.1
 have hl_c_L_V_S:=hz0.2.1
 have hl_c_R_S:=hz0.2.2.1
 have hl_c_R_V_S:=hz0.2.2.2
 clear hp hb
 apply @ve _ (bif decide ((1:Int)≤c.Op∧c.Op≤(3:Int)) then bif argOk c.L then bif argOk c.R then bif c.L.K !=(3:Int) then Lb (c.R.K !=(3:Int)) (kondOk c) else Lb false (kondOk c) else Lb false (kondOk c) else Lb false (kondOk c) else Lb false (kondOk c)) (by kernel_rfl)
 simp only[kondOk,termOk]
 repeat' (refine if_cond (fun h=> ?_) (fun h=> ?_))
 all_goals (refine Lf_b ?_;grind)
def Zh242:HH:=⟨_,Zo242⟩
def Zk91:Con UU where
 α:=DCond
 md:=[.ro]
 of:=o1 (oA .eCond)
 ds:=fun x=>[dA .eCond x]
 pre:=fun _=>[]
 res:=fun c=>⟨[dO (kondOk c)],true,[]⟩
 law:=l1 (lA .eCond)
def Za91:Zk91.α→Nat→Option (Ann UU):=fun c=>annL []
def Zu91:=us [Zh34,Zh166]
theorem Zo91:Holds EE (91,Zk91):=by
 refine holds_of EE_ok func91 Zk91 (by kernel_rfl) Zu91 (us_ok _) Za91 (fun(c:DCond) hp hb=> ?_)
 have hz0:=bd_eCond (x:=c) (hb _ m0)
 have hl_c_L_S:=hz0.1
 have hl_c_L_V_S:=hz0.2.1
 have hl_c_R_S:=hz0.2.2.1
 have hl_c_R_V_S:=hz0.2.2.2
 clear hp hb
 apply @ve _ (bif decide ((1:Int)≤c.Op∧c.Op≤(3:Int)) then bif termOk c.L then Lb (termOk c.R) (kondOk c) else Lb false (kondOk c) else Lb false (kondOk c)) (by kernel_rfl)
 simp only[kondOk]
 repeat' (refine if_cond (fun h=> ?_) (fun h=> ?_))
 all_goals (refine Lf_b ?_;grind)
def Zh91:HH:=⟨_,Zo91⟩
def Zk308:Con UU where
 α:=DExpr
 md:=[.ro]
 of:=o1 (oA .eExpr)
 ds:=fun x=>[dA .eExpr x]
 pre:=fun _=>[]
 res:=fun e=>⟨[dO (exprOk e)],true,[]⟩
 law:=l1 (lA .eExpr)
def Za308:Zk308.α→Nat→Option (Ann UU):=fun e=>annL []
def Zu308:=us [Zh315]
theorem Zo308:Holds EE (308,Zk308):=by
 refine holds_of EE_ok func308 Zk308 (by kernel_rfl) Zu308 (us_ok _) Za308 (fun(e:DExpr) hp hb=> ?_)
 have hz0:=bd_eExpr (x:=e) (hb _ m0)
 have hl_e_Op:=hz0.1
 have hl_e_L_S:=hz0.2.1
 have hl_e_L_V_S:=hz0.2.2.1
 have hl_e_R_S:=hz0.2.2.2.1
 have hl_e_R_V_S:=hz0.2.2.2.2
 clear hp hb
 apply @ve _ (let x0:Bool:=ByteArray.toList e.Op==ByteArray.toList {data:= #[(43:UInt8)]:ByteArray};bif ByteArray.toList e.Op==ByteArray.toList {data:= #[]:ByteArray} then bif termOk e.L then Lb (e.R.K==(0:Int)&&(ByteArray.toList e.R.S==ByteArray.toList {data:= #[]:ByteArray}&&(e.R.V.K==(0:Int)&&(e.R.V.N==(0:Int)&&(ByteArray.toList e.R.V.S==ByteArray.toList {data:= #[]:ByteArray}&&true))&&true))) (exprOk e) else Lb false (exprOk e) else bif x0 then bif x0 then bif termOk e.L then Lb (termOk e.R) (exprOk e) else Lb false (exprOk e) else Lb false (exprOk e) else bif ByteArray.toList e.Op==ByteArray.toList {data:= #[(45:UInt8)]:ByteArray} then bif termOk e.L then Lb (termOk e.R) (exprOk e) else Lb false (exprOk e) else Lb false (exprOk e)) (by kernel_rfl)
 dsimp only
 have e:∀s:ByteArray,(ByteArray.toList s==ByteArray.toList {data:= #[]})=decide (s=noBytes):=fun s=>toList_beq _ _
 have ea:∀a:DArg,(a.K==0&&(ByteArray.toList a.S==ByteArray.toList {data:= #[]}&&(a.V.K==0&&(a.V.N==0&&(ByteArray.toList a.V.S==ByteArray.toList {data:= #[]}&&true))&&true)))=decide (a=zArg):=fun a=>argR_beq a zArg
 have e1:∀s:ByteArray,(ByteArray.toList s==ByteArray.toList {data:= #[43]})=decide (s=bPlus):=fun s=>toList_beq _ _
 have e2:∀s:ByteArray,(ByteArray.toList s==ByteArray.toList {data:= #[45]})=decide (s=bMinus):=fun s=>toList_beq _ _
 simp only[ea]
 simp only[e,e1,e2,exprOk]
 repeat' (refine if_cond (fun h=> ?_) (fun h=> ?_))
 all_goals (refine Lf_b ?_;grind)
def Zh308:HH:=⟨_,Zo308⟩
def Zk238:Con UU where
 α:=DExpr
 md:=[.ro]
 of:=o1 (oA .eExpr)
 ds:=fun x=>[dA .eExpr x]
 pre:=fun _=>[]
 res:=fun e=>⟨[dO (exprOk e)],true,[]⟩
 law:=l1 (lA .eExpr)
def Za238:Zk238.α→Nat→Option (Ann UU):=fun e=>annL []
def Zu238:=us [Zh166]
theorem Zo238:Holds EE (238,Zk238):=by
 refine holds_of EE_ok func238 Zk238 (by kernel_rfl) Zu238 (us_ok _) Za238 (fun(e:DExpr) hp hb=> ?_)
 have hz0:=bd_eExpr (x:=e) (hb _ m0)
 have hl_e_Op:=hz0.1
 have hl_e_L_S:=hz0.2.1
 have hl_e_L_V_S:=hz0.2.2.1
 have hl_e_R_S:=hz0.2.2.2.1
 have hl_e_R_V_S:=hz0.2.2.2.2
 clear hp hb
 apply @ve _ (let x0:Bool:=ByteArray.toList e.Op==ByteArray.toList {data:= #[(43:UInt8)]:ByteArray};bif ByteArray.toList e.Op==ByteArray.toList {data:= #[]:ByteArray} then bif termOk e.L then Lb (e.R.K==(0:Int)&&(ByteArray.toList e.R.S==ByteArray.toList {data:= #[]:ByteArray}&&(e.R.V.K==(0:Int)&&(e.R.V.N==(0:Int)&&(ByteArray.toList e.R.V.S==ByteArray.toList {data:= #[]:ByteArray}&&true))&&true))) (exprOk e) else Lb false (exprOk e) else bif x0 then bif x0 then bif termOk e.L then Lb (termOk e.R) (exprOk e) else Lb false (exprOk e) else Lb false (exprOk e) else bif ByteArray.toList e.Op==ByteArray.toList {data:= #[(45:UInt8)]:ByteArray} then bif termOk e.L then Lb (termOk e.R) (exprOk e) else Lb false (exprOk e) else Lb false (exprOk e)) (by kernel_rfl)
 dsimp only
 have e:∀s:ByteArray,(ByteArray.toList s==ByteArray.toList {data:= #[]})=decide (s=noBytes):=fun s=>toList_beq _ _
 have ea:∀a:DArg,(a.K==0&&(ByteArray.toList a.S==ByteArray.toList {data:= #[]}&&(a.V.K==0&&(a.V.N==0&&(ByteArray.toList a.V.S==ByteArray.toList {data:= #[]}&&true))&&true)))=decide (a=zArg):=fun a=>argR_beq a zArg
 have e1:∀s:ByteArray,(ByteArray.toList s==ByteArray.toList {data:= #[43]})=decide (s=bPlus):=fun s=>toList_beq _ _
 have e2:∀s:ByteArray,(ByteArray.toList s==ByteArray.toList {data:= #[45]})=decide (s=bMinus):=fun s=>toList_beq _ _
 simp only[ea]
 simp only[e,e1,e2,exprOk]
 repeat' (refine if_cond (fun h=> ?_) (fun h=> ?_))
 all_goals (refine Lf_b ?_;grind)
def Zh238:HH:=⟨_,Zo238⟩
def Zk284:Con UU where
 α:=(List DExpr)
 md:=[.ro]
 of:=o1 (oL .eExpr)
 ds:=fun x=>[dL .eExpr x]
 pre:=fun _=>[]
 res:=fun es=>⟨[dO (exprsOk es)],true,[]⟩
 law:=l1 (lL .eExpr)
def Zi284_2(es:(List DExpr)):Int×Unit→Prop:=fun(i,_)=>0≤i∧i≤es.length∧(es.drop i.toNat).all exprOk=es.all exprOk
def Zm284_2(es:(List DExpr)):Int×Unit→Nat:=fun(i,_)=>es.length-i.toNat
def Za284:Zk284.α→Nat→Option (Ann UU):=fun es=>annL [(2,annOf [.slot 3 (3,1024) (.lit (.int .i64))] (fun _=>Zi284_2 es) (Zm284_2 es))]
def Zu284:=us [Zh308]
theorem Zo284:Holds EE (284,Zk284):=by
 refine holds_of EE_ok func284 Zk284 (by kernel_rfl) Zu284 (us_ok _) Za284 (fun(es:(List DExpr)) hp hb=> ?_)
 have hl_es:es.length≤9223372036854775807:=bdL (hb _ m0)
 clear hp hb
 apply @ve _ (let x0:Int:=(es.length:Int);Zi284_2 es ((0:Int),())∧∀(y:Int×PUnit),Zi284_2 es y→bif decide (y.1<x0) then(0:Int)≤y.1∧y.1.toNat<es.length∧bif !exprOk (List.getD es y.1.toNat zExpr) then Lb false (exprsOk es) else Zi284_2 es (IntKind.wrap IntKind.i64 (y.1+(1:Int)),())∧Zm284_2 es (IntKind.wrap IntKind.i64 (y.1+(1:Int)),())<Zm284_2 es y else Lb (decide (x0≤(5:Int))) (exprsOk es)) (by kernel_rfl)
 dsimp only
 refine⟨⟨by omega,by omega,rfl⟩,?_⟩
 rintro⟨i,⟨⟩⟩ ⟨h1,h2,hR⟩
 simp only
 refine if_cond (fun hc=> ?_) (fun hc=> ?_)
 ·have hc:=of_decide_eq_true hc
  rw[all_step _ _ zExpr h1 (by omega)] at hR
  rw[wrap_i64 (by omega) (by omega)]
  refine⟨by omega,by omega,if_cond (fun h=>Lf_ff ?_) (fun h=>⟨⟨by omega,by omega,?_⟩,?_⟩)⟩
  ·simp only[exprsOk,←hR];simp at h;simp[h]
  ·rw[←hR];simp at h;simp[h]
  ·simp only[Zm284_2];omega
 ·have hc:=of_decide_eq_false hc
  rw[drop_end _ (by omega)] at hR
  refine Lf_b ?_
  simp only[exprsOk,←hR];simp;omega
def Zh284:HH:=⟨_,Zo284⟩
def Zk167:Con UU where
 α:=DAct
 md:=[.ro]
 of:=o1 (oA .eAct)
 ds:=fun x=>[dA .eAct x]
 pre:=fun _=>[]
 res:=fun a=>⟨[dO (nameOk a.Name&&exprsOk a.Args)],true,[]⟩
 law:=l1 (lA .eAct)
def Zi167_4(a:DAct):Int×Unit→Prop:=fun(i,_)=>0≤i∧i≤a.Args.length∧a.Args.length≤5∧nameOk a.Name=true∧(a.Args.drop i.toNat).all exprOk=a.Args.all exprOk
def Zm167_4(a:DAct):Int×Unit→Nat:=fun(i,_)=>a.Args.length-i.toNat
def Za167:Zk167.α→Nat→Option (Ann UU):=fun a=>annL [(4,annOf [.slot 18 (18,1024) (.lit (.int .i64))] (fun _=>Zi167_4 a) (Zm167_4 a))]
def Zu167:=us [Zh238,Zh33]
theorem Zo167:Holds EE (167,Zk167):=by
 refine holds_of EE_ok func167 Zk167 (by kernel_rfl) Zu167 (us_ok _) Za167 (fun(a:DAct) hp hb=> ?_)
 have hz0:=bd_eAct (x:=a) (hb _ m0)
 have hl_a_Name:=hz0.1
 have hl_a_Args:=hz0.2.1
 have hl_a_Undo:=hz0.2.2
 clear hp hb
 apply @ve _ (let x0:Int:=(a.Args.length:Int);bif !nameOk a.Name then Lb false (nameOk a.Name&&exprsOk a.Args) else bif decide (x0>(5:Int)) then Lb false (nameOk a.Name&&exprsOk a.Args) else Zi167_4 a ((0:Int),())∧∀(y:Int×PUnit),Zi167_4 a y→bif decide (y.1<x0) then(0:Int)≤y.1∧y.1.toNat<a.Args.length∧bif !exprOk (List.getD a.Args y.1.toNat zExpr) then Lb false (nameOk a.Name&&exprsOk a.Args) else Zi167_4 a (IntKind.wrap IntKind.i64 (y.1+(1:Int)),())∧Zm167_4 a (IntKind.wrap IntKind.i64 (y.1+(1:Int)),())<Zm167_4 a y else Lb true (nameOk a.Name&&exprsOk a.Args)) (by kernel_rfl)
 dsimp only
 refine if_cond (fun h=>Lf_ff ?_) (fun h=>if_cond (fun h'=>Lf_ff ?_) (fun h'=> ?_))
 ·simp at h;simp[h]
 ·have h':=of_decide_eq_true h';simp only[exprsOk];rw[decide_eq_false (show¬a.Args.length≤5 by omega)];simp
 have h':=of_decide_eq_false h'
 refine⟨⟨by omega,by omega,by omega,by simpa using h,rfl⟩,?_⟩
 rintro⟨i,⟨⟩⟩ ⟨h1,h2,h3,h4,hR⟩
 simp only
 refine if_cond (fun hc=> ?_) (fun hc=> ?_)
 ·have hc:=of_decide_eq_true hc
  rw[all_step _ _ zExpr h1 (by omega)] at hR
  rw[wrap_i64 (by omega) (by omega)]
  refine⟨by omega,by omega,if_cond (fun h=>Lf_ff ?_) (fun h=>⟨⟨by omega,by omega,h3,h4,?_⟩,?_⟩)⟩
  ·simp only[exprsOk,←hR];simp at h;simp[h]
  ·rw[←hR];simp at h;simp[h]
  ·simp only[Zm167_4];omega
 ·have hc:=of_decide_eq_false hc
  rw[drop_end _ (by omega)] at hR
  refine Lf_tt ?_
  simp only[exprsOk,←hR,h4,decide_eq_true h3];rfl
def Zh167:HH:=⟨_,Zo167⟩
def Zk243:Con UU where
 α:=DAct
 md:=[.ro]
 of:=o1 (oA .eAct)
 ds:=fun x=>[dA .eAct x]
 pre:=fun _=>[]
 res:=fun a=>⟨[dO (actOk a)],true,[]⟩
 law:=l1 (lA .eAct)
def Za243:Zk243.α→Nat→Option (Ann UU):=fun a=>annL []
def Zu243:=us [Zh104,Zh103,Zh284]
theorem Zo243:Holds EE (243,Zk243):=by
 refine holds_of EE_ok func243 Zk243 (by kernel_rfl) Zu243 (us_ok _) Za243 (fun(a:DAct) hp hb=> ?_)
 have hz0:=bd_eAct (x:=a) (hb _ m0)
 have hl_a_Name:=hz0.1
 have hl_a_Args:=hz0.2.1
 have hl_a_Undo:=hz0.2.2
 clear hp hb
 apply @ve _ (let x0:Bool:=ByteArray.toList a.Undo==ByteArray.toList {data:= #[]:ByteArray};let x1:Bool:=a.Kind==(5:Int);let x2:Bool:=a.N==(0:Int);bif ByteArray.toList a.Name==ByteArray.toList {data:= #[]:ByteArray} then bif (a.Args.length:Int)==(0:Int) then bif a.Kind==(1:Int) then bif nameOk a.Name then bif exprsOk a.Args then bif x2 then Lb x0 (actOk a) else Lb false (actOk a) else Lb false (actOk a) else Lb false (actOk a) else bif a.Kind==(3:Int) then bif nameOk a.Name then bif exprsOk a.Args then bif x2 then bif x0 then Lb true (actOk a) else Lb (nameOk a.Undo) (actOk a) else Lb false (actOk a) else Lb false (actOk a) else Lb false (actOk a) else bif a.Kind==(4:Int) then bif nameOk a.Name then bif exprsOk a.Args then bif decide ((0:Int)≤a.N∧a.N≤(100000:Int)) then Lb x0 (actOk a) else Lb false (actOk a) else Lb false (actOk a) else Lb false (actOk a) else bif a.Kind==(2:Int) then bif x0 then Lb (decide ((0:Int)≤a.N∧a.N≤(7:Int))) (actOk a) else Lb false (actOk a) else bif x1 then bif x1 then bif x0 then Lb x2 (actOk a) else Lb false (actOk a) else Lb false (actOk a) else bif a.Kind==(6:Int) then bif x0 then Lb x2 (actOk a) else Lb false (actOk a) else Lb false (actOk a) else bif a.Kind==(1:Int) then bif nameOk a.Name then bif exprsOk a.Args then bif x2 then Lb x0 (actOk a) else Lb false (actOk a) else Lb false (actOk a) else Lb false (actOk a) else bif a.Kind==(3:Int) then bif nameOk a.Name then bif exprsOk a.Args then bif x2 then bif x0 then Lb true (actOk a) else Lb (nameOk a.Undo) (actOk a) else Lb false (actOk a) else Lb false (actOk a) else Lb false (actOk a) else bif a.Kind==(4:Int) then bif nameOk a.Name then bif exprsOk a.Args then bif decide ((0:Int)≤a.N∧a.N≤(100000:Int)) then Lb x0 (actOk a) else Lb false (actOk a) else Lb false (actOk a) else Lb false (actOk a) else bif a.Kind==(2:Int) then Lb false (actOk a) else bif x1 then bif x1 then Lb false (actOk a) else Lb false (actOk a) else bif a.Kind==(6:Int) then Lb false (actOk a) else Lb false (actOk a) else bif a.Kind==(1:Int) then bif nameOk a.Name then bif exprsOk a.Args then bif x2 then Lb x0 (actOk a) else Lb false (actOk a) else Lb false (actOk a) else Lb false (actOk a) else bif a.Kind==(3:Int) then bif nameOk a.Name then bif exprsOk a.Args then bif x2 then bif x0 then Lb true (actOk a) else Lb (nameOk a.Undo) (actOk a) else Lb false (actOk a) else Lb false (actOk a) else Lb false (actOk a) else bif a.Kind==(4:Int) then bif nameOk a.Name then bif exprsOk a.Args then bif decide ((0:Int)≤a.N∧a.N≤(100000:Int)) then Lb x0 (actOk a) else Lb false (actOk a) else Lb false (actOk a) else Lb false (actOk a) else bif a.Kind==(2:Int) then Lb false (actOk a) else bif x1 then bif x1 then Lb false (actOk a) else Lb false (actOk a) else bif a.Kind==(6:Int) then Lb false (actOk a) else Lb false (actOk a)) (by kernel_rfl)
 dsimp only
 have e:∀s:ByteArray,(ByteArray.toList s==ByteArray.toList {data:= #[]})=decide (s=noBytes):=fun s=>toList_beq _ _
 simp only[e,actOk,bareA,undoOk]
 repeat' (refine if_cond (fun h=> ?_) (fun h=> ?_))
 all_goals (refine Lf_b ?_;grind)
def Zh243:HH:=⟨_,Zo243⟩
def Zk92:Con UU where
 α:=DAct
 md:=[.ro]
 of:=o1 (oA .eAct)
 ds:=fun x=>[dA .eAct x]
 pre:=fun _=>[]
 res:=fun a=>⟨[dO (actOk a)],true,[]⟩
 law:=l1 (lA .eAct)
def Za92:Zk92.α→Nat→Option (Ann UU):=fun a=>annL []
def Zu92:=us [Zh34,Zh167,Zh43]
theorem Zo92:Holds EE (92,Zk92):=by
 refine holds_of EE_ok func92 Zk92 (by kernel_rfl) Zu92 (us_ok _) Za92 (fun(a:DAct) hp hb=> ?_)
 have hz0:=bd_eAct (x:=a) (hb _ m0)
 have hl_a_Name:=hz0.1
 have hl_a_Args:=hz0.2.1
 have hl_a_Undo:=hz0.2.2
 clear hp hb
 apply @ve _ (let x0:Bool:=a.Kind==(5:Int);let x1:Bool:=nameOk a.Name&&exprsOk a.Args;bif ByteArray.toList a.Name==ByteArray.toList {data:= #[]:ByteArray} then bif a.Kind==(1:Int) then bif x1 then bif a.N==(0:Int) then Lb (ByteArray.toList a.Undo==ByteArray.toList {data:= #[]:ByteArray}) (actOk a) else Lb false (actOk a) else Lb false (actOk a) else bif a.Kind==(2:Int) then bif (a.Args.length:Int)==(0:Int) then bif decide ((0:Int)≤a.N∧a.N≤(7:Int)) then Lb (ByteArray.toList a.Undo==ByteArray.toList {data:= #[]:ByteArray}) (actOk a) else Lb false (actOk a) else Lb false (actOk a) else bif a.Kind==(3:Int) then bif x1 then bif a.N==(0:Int) then Lb (undoOk a.Undo) (actOk a) else Lb false (actOk a) else Lb false (actOk a) else bif a.Kind==(4:Int) then bif x1 then bif decide ((0:Int)≤a.N∧a.N≤(100000:Int)) then Lb (ByteArray.toList a.Undo==ByteArray.toList {data:= #[]:ByteArray}) (actOk a) else Lb false (actOk a) else Lb false (actOk a) else bif x0 then bif x0 then bif (a.Args.length:Int)==(0:Int) then bif a.N==(0:Int) then Lb (ByteArray.toList a.Undo==ByteArray.toList {data:= #[]:ByteArray}) (actOk a) else Lb false (actOk a) else Lb false (actOk a) else Lb false (actOk a) else bif a.Kind==(6:Int) then bif (a.Args.length:Int)==(0:Int) then bif a.N==(0:Int) then Lb (ByteArray.toList a.Undo==ByteArray.toList {data:= #[]:ByteArray}) (actOk a) else Lb false (actOk a) else Lb false (actOk a) else Lb false (actOk a) else bif a.Kind==(1:Int) then bif x1 then bif a.N==(0:Int) then Lb (ByteArray.toList a.Undo==ByteArray.toList {data:= #[]:ByteArray}) (actOk a) else Lb false (actOk a) else Lb false (actOk a) else bif a.Kind==(2:Int) then Lb false (actOk a) else bif a.Kind==(3:Int) then bif x1 then bif a.N==(0:Int) then Lb (undoOk a.Undo) (actOk a) else Lb false (actOk a) else Lb false (actOk a) else bif a.Kind==(4:Int) then bif x1 then bif decide ((0:Int)≤a.N∧a.N≤(100000:Int)) then Lb (ByteArray.toList a.Undo==ByteArray.toList {data:= #[]:ByteArray}) (actOk a) else Lb false (actOk a) else Lb false (actOk a) else bif x0 then bif x0 then Lb false (actOk a) else Lb false (actOk a) else bif a.Kind==(6:Int) then Lb false (actOk a) else Lb false (actOk a)) (by kernel_rfl)
 dsimp only
 have e:∀s:ByteArray,(ByteArray.toList s==ByteArray.toList {data:= #[]})=decide (s=noBytes):=fun s=>toList_beq _ _
 simp only[e,actOk,bareA,undoOk]
 repeat' (refine if_cond (fun h=> ?_) (fun h=> ?_))
 all_goals (refine Lf_b ?_;grind)
def Zh92:HH:=⟨_,Zo92⟩
def hasS(l:List ByteArray)(s:ByteArray):Bool:=l.any fun t=>decide (t=s)
theorem hasS_iff{l:List ByteArray}{s:ByteArray}:hasS l s=true↔s∈l:=by
 simp only[hasS,zbb,decide_eq_true_eq]
 exact⟨fun⟨t,h1,h2⟩=>h2▸h1,fun h=>⟨s,h,rfl⟩⟩
def addOnce(l:List ByteArray)(s:ByteArray):List ByteArray:=if hasS l s then l else l++[s]
def addVar(l:List ByteArray)(a:DArg):List ByteArray:=if a.K=1 then addOnce l a.S else l
def addVars(l:List ByteArray)(xs:List DArg):List ByteArray:=xs.foldl addVar l
theorem addOnce_mem{l:List ByteArray}{s t:ByteArray}:t∈addOnce l s↔t∈l∨t=s:=by
 unfold addOnce;split
 ·rename_i h
  exact⟨.inl,fun h'=>h'.elim id (fun e=>e▸hasS_iff.1 h)⟩
 ·simp
theorem addOnce_len(l:List ByteArray)(s:ByteArray):(addOnce l s).length≤l.length+1:=by
 unfold addOnce;split
 ·omega
 ·simp
theorem addVar_mem{l:List ByteArray}{a:DArg}{t:ByteArray}:t∈addVar l a↔t∈l∨(a.K=1∧t=a.S):=by
 unfold addVar;split
 ·rename_i h;rw[addOnce_mem];simp[h]
 ·rename_i h;simp[h]
theorem addVar_len(l:List ByteArray)(a:DArg):(addVar l a).length≤l.length+1:=by
 unfold addVar;split
 ·exact addOnce_len _ _
 ·omega
theorem addVars_mem{t:ByteArray}:∀{xs:List DArg}{l:List ByteArray},t∈addVars l xs↔t∈l∨∃a∈xs,a.K=1∧t=a.S
 |[],l=>by simp[addVars]
 |a::xs,l=>by
  show t∈addVars (addVar l a) xs↔_
  rw[addVars_mem,addVar_mem]
  simp only[zak,exists_eq_or_imp,or_assoc]
theorem addVars_len:∀(xs:List DArg)(l:List ByteArray),(addVars l xs).length≤l.length+xs.length
 |[],l=>zca _
 |a::xs,l=>by
  have h1:=addVars_len xs (addVar l a)
  have h2:=addVar_len l a
  show(addVars (addVar l a) xs).length≤_
  simp only[zbq];omega
theorem addVars_step(l:List ByteArray)(xs:List DArg){i:Int}(h0:0≤i)(h:i<xs.length):addVars l (xs.take (i+1).toNat)=addVar (addVars l (xs.take i.toNat)) (List.getD xs i.toNat zArg):=by
 rw[←take_step xs zArg h0 h]
 simp only[addVars,List.foldl_append,List.foldl_cons,List.foldl_nil]
def posVar(l:List ByteArray)(p:DPat):List ByteArray:=if p.Not then l else addVars l p.Args
def posVars(ps:List DPat):List ByteArray:=ps.foldl posVar []
theorem foldl_step{α β:Type}(f:β→α→β)(b:β)(l:List α)(z:α){i:Int}(h0:0≤i)(h:i<l.length):(l.take (i+1).toNat).foldl f b=f ((l.take i.toNat).foldl f b) (List.getD l i.toNat z):=by
 rw[←take_step l z h0 h]
 simp only[List.foldl_append,List.foldl_cons,List.foldl_nil]
def patArgs(ps:List DPat):Nat:=(ps.map fun p=>p.Args.length).sum
def isBound(ps:List DPat)(t:ByteArray):Prop:=∃p∈ps,p.Not=false∧∃a∈p.Args,a.K=1∧t=a.S
theorem posVar_mem{l:List ByteArray}{p:DPat}{t:ByteArray}:t∈posVar l p↔t∈l∨(p.Not=false∧∃a∈p.Args,a.K=1∧t=a.S):=by
 unfold posVar
 cases h:p.Not
 ·simp only[zbg,if_false];rw[addVars_mem];simp
 ·simp
theorem posVars_mem0{t:ByteArray}:∀{ps:List DPat}{l:List ByteArray},t∈ps.foldl posVar l↔t∈l∨isBound ps t
 |[],l=>by simp[isBound]
 |p::ps,l=>by
  show t∈ps.foldl posVar (posVar l p)↔_
  rw[posVars_mem0,posVar_mem]
  simp only[isBound,zak,exists_eq_or_imp,or_assoc]
theorem posVars_mem{ps:List DPat}{t:ByteArray}:t∈posVars ps↔isBound ps t:=by
 unfold posVars;rw[posVars_mem0];simp
theorem posVars_len0:∀(ps:List DPat)(l:List ByteArray),(ps.foldl posVar l).length≤l.length+patArgs ps
 |[],l=>zca _
 |p::ps,l=>by
  have h1:=posVars_len0 ps (posVar l p)
  have h2:(posVar l p).length≤l.length+p.Args.length:=by
   unfold posVar;split
   ·omega
   ·exact addVars_len _ _
  show(ps.foldl posVar (posVar l p)).length≤_
  simp only[patArgs,zbt,zdc] at h1⊢;omega
def posVarS(l:List ByteArray)(p:DPat):List ByteArray:=if p.Not then l else(addVars [] p.Args).foldl addOnce l
def posVarsS(ps:List DPat):List ByteArray:=ps.foldl posVarS []
theorem foldOnce_mem{t:ByteArray}:∀{xs l:List ByteArray},t∈xs.foldl addOnce l↔t∈l∨t∈xs
 |[],l=>by simp
 |a::xs,l=>by
  show t∈xs.foldl addOnce (addOnce l a)↔_
  rw[foldOnce_mem,addOnce_mem,zak,or_assoc]
theorem foldOnce_len:∀(xs l:List ByteArray),(xs.foldl addOnce l).length≤l.length+xs.length
 |[],l=>zca _
 |a::xs,l=>by
  have h1:=foldOnce_len xs (addOnce l a)
  have h2:=addOnce_len l a
  show(xs.foldl addOnce (addOnce l a)).length≤_
  simp only[zbq];omega
theorem posVarS_mem{l:List ByteArray}{p:DPat}{t:ByteArray}:t∈posVarS l p↔t∈l∨(p.Not=false∧∃a∈p.Args,a.K=1∧t=a.S):=by
 unfold posVarS
 cases h:p.Not
 ·simp only[zbg,if_false];rw[foldOnce_mem,addVars_mem];simp
 ·simp
theorem posVarsS_mem0{t:ByteArray}:∀{ps:List DPat}{l:List ByteArray},t∈ps.foldl posVarS l↔t∈l∨isBound ps t
 |[],l=>by simp[isBound]
 |p::ps,l=>by
  show t∈ps.foldl posVarS (posVarS l p)↔_
  rw[posVarsS_mem0,posVarS_mem]
  simp only[isBound,zak,exists_eq_or_imp,or_assoc]
theorem posVarsS_mem{ps:List DPat}{t:ByteArray}:t∈posVarsS ps↔isBound ps t:=by
 unfold posVarsS;rw[posVarsS_mem0];simp
theorem posVarsS_len0:∀(ps:List DPat)(l:List ByteArray),(ps.foldl posVarS l).length≤l.length+patArgs ps
 |[],l=>zca _
 |p::ps,l=>by
  have h1:=posVarsS_len0 ps (posVarS l p)
  have h2:(posVarS l p).length≤l.length+p.Args.length:=by
   unfold posVarS;split
   ·omega
   ·have g1:=foldOnce_len (addVars [] p.Args) l
    have g2:=addVars_len p.Args []
    simp only[zbo] at g2;omega
  show(ps.foldl posVarS (posVarS l p)).length≤_
  simp only[patArgs,zbt,zdc] at h1⊢;omega
theorem patArgs_take(ps:List DPat)(n:Nat):patArgs (ps.take n)≤patArgs ps:=by
 have h:=congrArg (fun q=>(q.map fun p:DPat=>p.Args.length).sum) (zcq n ps)
 simp only[zef,zet] at h
 simp only[patArgs];omega
theorem patArgs_at(ps:List DPat){i:Int}(h0:0≤i)(h:i<ps.length):patArgs (ps.take i.toNat)+(List.getD ps i.toNat zPat).Args.length≤patArgs ps:=by
 have h1:=patArgs_take ps (i+1).toNat
 rw[←take_step ps zPat h0 h] at h1
 simp only[patArgs,zef,zet,zbt,List.map_nil,zdc,List.sum_nil] at h1⊢
 omega
def posN(ps:List DPat):Nat:=(ps.filter fun p=> !p.Not).length
theorem hasS_step{l:List ByteArray}{s:ByteArray}{i:Int}(h0:0≤i)(hl:i<l.length)(h:∀j:Nat,(j:Int)<i→¬List.getD l j noBytes=s)(hi:¬List.getD l i.toNat noBytes=s):∀j:Nat,(j:Int)<i+1→¬List.getD l j noBytes=s:=by
 intro j hj
 by_cases hji:(j:Int)<i
 ·exact h j hji
 ·have:j=i.toNat:=by omega
  subst this;exact hi
theorem hasS_no{l:List ByteArray}{s:ByteArray}(h:∀j:Nat,j<l.length→¬List.getD l j noBytes=s):hasS l s=false:=by
 rw[←zbj,hasS_iff]
 intro hm
 obtain⟨j,hj,rfl⟩:=zbk hm
 exact h j hj (by rw[zac,zad hj];rfl)
theorem hasS_yes{l:List ByteArray}{s:ByteArray}{j:Nat}(hj:j<l.length)(h:List.getD l j noBytes=s):hasS l s=true:=by
 rw[hasS_iff,←h,zac,zad hj]
 exact zda hj
theorem posN_step(ps:List DPat){i:Int}(h0:0≤i)(h:i<ps.length):posN (ps.take (i+1).toNat)=posN (ps.take i.toNat)+(if(!(List.getD ps i.toNat zPat).Not)=true then 1 else 0):=by
 rw[←take_step ps zPat h0 h]
 simp only[posN,List.filter_append,zce,List.filter_cons,List.filter_nil]
 split<;>simp
theorem posN_le(ps:List DPat)(n:Nat):posN (ps.take n)≤n:=zde (zdt _ _) (by simp;omega)
def Zk223:Con UU where
 α:=(List ByteArray)×ByteArray
 md:=[.ro,.ro]
 of:=oC (oL .str) (o1 oS)
 ds:=fun x=>[dL .str x.1,dS x.2]
 pre:=fun _=>[]
 res:=fun(l,s)=>⟨[dO (hasS l s)],true,[]⟩
 law:=lC (lL .str) (l1 lS)
def Zi223_2(l:(List ByteArray))(s:ByteArray):Int×Unit→Prop:=fun(i,_)=>0≤i∧i≤l.length∧∀j:Nat,(j:Int)<i→¬List.getD l j noBytes=s
def Zm223_2(l:(List ByteArray))(s:ByteArray):Int×Unit→Nat:=fun(i,_)=>l.length-i.toNat
def Za223:Zk223.α→Nat→Option (Ann UU):=fun(l,s)=>annL [(2,annOf [.slot 5 (5,1024) (.lit (.int .i64))] (fun _=>Zi223_2 l s) (Zm223_2 l s))]
def Zu223:List (FuncId×Con UU):=[]
theorem Zo223:Holds EE (223,Zk223):=by
 refine holds_of EE_ok func223 Zk223 (by kernel_rfl) Zu223 all_nil Za223 (fun x hp hb=> ?_)
 obtain⟨l,s⟩:=x
 have hl_l:l.length≤9223372036854775807:=bdL (hb _ m0)
 have hl_s:=bdS (s:=s) (hb _ m1)
 clear hp hb
 apply @ve _ (Zi223_2 l s ((0:Int),())∧∀(y:Int×PUnit),Zi223_2 l s y→bif decide (y.1<(l.length:Int)) then(0:Int)≤y.1∧y.1.toNat<l.length∧bif ByteArray.toList (List.getD l y.1.toNat noBytes)==ByteArray.toList s then Lb true (hasS l s) else Zi223_2 l s (IntKind.wrap IntKind.i64 (y.1+(1:Int)),())∧Zm223_2 l s (IntKind.wrap IntKind.i64 (y.1+(1:Int)),())<Zm223_2 l s y else Lb false (hasS l s)) (by kernel_rfl)
 refine⟨⟨by omega,by omega,by intro j hj;omega⟩,?_⟩
 rintro⟨i,⟨⟩⟩ ⟨h1,h2,hR⟩
 simp only[toList_beq]
 refine if_cond (fun hc=> ?_) (fun hc=> ?_)
 ·have hc:=of_decide_eq_true hc
  rw[wrap_i64 (by omega) (by omega)]
  refine⟨by omega,by omega,if_cond (fun h=>Lf_tt (hasS_yes (j:=i.toNat) (by omega) (of_decide_eq_true h))) (fun h=>⟨⟨by omega,by omega,hasS_step h1 hc hR (of_decide_eq_false h)⟩,by simp only[Zm223_2];omega⟩)⟩
 ·have hc:=of_decide_eq_false hc
  exact Lf_ff (hasS_no fun j hj=>hR j (by omega))
def Zh223:HH:=⟨_,Zo223⟩
def Zk169:Con UU where
 α:=(List ByteArray)×ByteArray
 md:=[.ro,.ro]
 of:=oC (oL .str) (o1 oS)
 ds:=fun x=>[dL .str x.1,dS x.2]
 pre:=fun _=>[]
 res:=fun(l,s)=>⟨[dI (idxI l.length (fun j=>decide (List.getD l j noBytes=s)))],true,[]⟩
 law:=lC (lL .str) (l1 lS)
def Zi169_2(l:(List ByteArray))(s:ByteArray):Int×Unit→Prop:=fun(i,_)=>0≤i∧i≤l.length∧∀j:Nat,(j:Int)<i→¬List.getD l j noBytes=s
def Zm169_2(l:(List ByteArray))(s:ByteArray):Int×Unit→Nat:=fun(i,_)=>l.length-i.toNat
def Za169:Zk169.α→Nat→Option (Ann UU):=fun(l,s)=>annL [(2,annOf [.slot 8 (8,1024) (.lit (.int .i64))] (fun _=>Zi169_2 l s) (Zm169_2 l s))]
def Zu169:List (FuncId×Con UU):=[]
theorem Zo169:Holds EE (169,Zk169):=by
 refine holds_of EE_ok func169 Zk169 (by kernel_rfl) Zu169 all_nil Za169 (fun x hp hb=> ?_)
 obtain⟨l,s⟩:=x
 have hl_l:l.length≤9223372036854775807:=bdL (hb _ m0)
 have hl_s:=bdS (s:=s) (hb _ m1)
 clear hp hb
 apply @ve _ (Zi169_2 l s ((0:Int),())∧∀(y:Int×PUnit),Zi169_2 l s y→bif decide (y.1<(l.length:Int)) then(0:Int)≤y.1∧y.1.toNat<l.length∧bif ByteArray.toList s==ByteArray.toList (List.getD l y.1.toNat noBytes) then Li y.1 (idxI (l.length) fun(j:Nat)=>decide (List.getD l j noBytes=s)) else Zi169_2 l s (IntKind.wrap IntKind.i64 (y.1+(1:Int)),())∧Zm169_2 l s (IntKind.wrap IntKind.i64 (y.1+(1:Int)),())<Zm169_2 l s y else Li (-1:Int) (idxI (l.length) fun(j:Nat)=>decide (List.getD l j noBytes=s))) (by kernel_rfl)
 refine⟨⟨by omega,by omega,by intro j hj;omega⟩,?_⟩
 rintro⟨i,⟨⟩⟩ ⟨h1,h2,hR⟩
 simp only[toList_beq]
 refine if_cond (fun hc=> ?_) (fun hc=> ?_)
 ·have hc:=of_decide_eq_true hc
  rw[wrap_i64 (by omega) (by omega)]
  refine⟨by omega,by omega,if_cond (fun h=>Lf_i ?_) (fun h=>⟨⟨by omega,by omega,hasS_step h1 hc hR (fun e=>of_decide_eq_false h e.symm)⟩,by simp only[Zm169_2];omega⟩)⟩
  rw[idxI_found (i:=i.toNat) (by omega) (decide_eq_true (of_decide_eq_true h).symm) (fun j hj=>decide_eq_false (hR j (by omega)))]
  omega
 ·have hc:=of_decide_eq_false hc
  exact Lf_i (idxI_none (fun j hj=>decide_eq_false (hR j (by omega)))).symm
def Zh169:HH:=⟨_,Zo169⟩
def Zk96:Con UU where
 α:=(List ByteArray)×ByteArray
 md:=[.ro,.ro]
 of:=oC (oL .str) (o1 oS)
 ds:=fun x=>[dL .str x.1,dS x.2]
 pre:=fun _=>[]
 res:=fun(l,s)=>⟨[dO (hasS l s)],true,[]⟩
 law:=lC (lL .str) (l1 lS)
def Za96:Zk96.α→Nat→Option (Ann UU):=fun(l,s)=>annL []
def Zu96:=us [Zh169]
theorem Zo96:Holds EE (96,Zk96):=by
 refine holds_of EE_ok func96 Zk96 (by kernel_rfl) Zu96 (us_ok _) Za96 (fun x hp hb=> ?_)
 obtain⟨l,s⟩:=x
 have hl_l:l.length≤9223372036854775807:=bdL (hb _ m0)
 have hl_s:=bdS (s:=s) (hb _ m1)
 clear hp hb
 apply @ve _ (let x0:Int:=idxI (l.length) fun(j:Nat)=>decide (List.getD l j noBytes=s);Lb (decide (x0≥(0:Int))) (hasS l s)) (by kernel_rfl)
 dsimp only
 refine Lf_b ?_
 show decide (0≤idxI l.length (fun j=>decide (List.getD l j noBytes=s)))=_
 rw[idxI_ge]
 by_cases h:hasS l s=true
 ·rw[h]
  obtain⟨j,hj,hs⟩:=zbk (hasS_iff.1 h)
  exact anyI_true hj (decide_eq_true (by rw[zac,zad hj];exact hs))
 ·rw[zbj] at h
  rw[h]
  exact anyI_false fun j hj=>decide_eq_false fun e=>absurd (hasS_yes hj e) (by rw[h];decide)
def Zh96:HH:=⟨_,Zo96⟩
def Zk40:Con UU where
 α:=DRule
 md:=[.ro]
 of:=o1 (oA .eRule)
 ds:=fun x=>[dA .eRule x]
 pre:=fun _=>[]
 res:=fun r=>⟨[dI (posN r.Pats:Int)],true,[]⟩
 law:=l1 (lA .eRule)
def Zi40_3(r:DRule):Int×Int×(ByteArray×Int×List DPat×List DCond×List DAct×Unit)×Unit→Prop:=fun(n,i,b,_)=>b=(r.Name,r.Sal,r.Pats,r.Conds,r.Acts,())∧0≤i∧i≤r.Pats.length∧n=posN (r.Pats.take i.toNat)
def Zm40_3(r:DRule):Int×Int×(ByteArray×Int×List DPat×List DCond×List DAct×Unit)×Unit→Nat:=fun(n,i,b,_)=>r.Pats.length-i.toNat
def Za40:Zk40.α→Nat→Option (Ann UU):=fun r=>annL [(3,annOf [.slot 3 (3,1024) (.lit (.int .i64)),.slot 4 (4,1024) (.lit (.int .i64)),.box 1 (1,1024) [.lit .str,.lit (.int .i64),.shr .ePat,.shr .eCond,.shr .eAct]] (fun _=>Zi40_3 r) (Zm40_3 r))]
def Zu40:List (FuncId×Con UU):=[]
theorem Zo40:Holds EE (40,Zk40):=by
 refine holds_of EE_ok func40 Zk40 (by kernel_rfl) Zu40 all_nil Za40 (fun(r:DRule) hp hb=> ?_)
 have hz0:=bd_eRule (x:=r) (hb _ m0)
 have hl_r_Name:=hz0.1
 have hl_r_Pats:=hz0.2.1
 have hl_r_Conds:=hz0.2.2.1
 have hl_r_Acts:=hz0.2.2.2
 clear hp hb
 apply @ve _ (Zi40_3 r ((0:Int),(0:Int),(r.Name,r.Sal,r.Pats,r.Conds,r.Acts,()),())∧∀(y:Int×Int×(ByteArray×Int×List DPat×List DCond×List DAct×PUnit)×PUnit),let x1:Nat:=y.2.2.1.2.2.1.length;let x2:Nat:=y.2.1.toNat;let x0:Int:=(↑x1:Int);Zi40_3 r y→bif decide (y.2.1<x0) then(0:Int)≤y.2.1∧x2<x1∧bif !(List.getD y.2.2.1.2.2.1 x2 zPat).Not then Zi40_3 r (IntKind.wrap IntKind.i64 (y.1+(1:Int)),IntKind.wrap IntKind.i64 (y.2.1+(1:Int)),(y.2.2.1.1,y.2.2.1.2.1,y.2.2.1.2.2.1,y.2.2.1.2.2.2.1,y.2.2.1.2.2.2.2.1,()),())∧Zm40_3 r (IntKind.wrap IntKind.i64 (y.1+(1:Int)),IntKind.wrap IntKind.i64 (y.2.1+(1:Int)),(y.2.2.1.1,y.2.2.1.2.1,y.2.2.1.2.2.1,y.2.2.1.2.2.2.1,y.2.2.1.2.2.2.2.1,()),())<Zm40_3 r y else Zi40_3 r (y.1,IntKind.wrap IntKind.i64 (y.2.1+(1:Int)),(y.2.2.1.1,y.2.2.1.2.1,y.2.2.1.2.2.1,y.2.2.1.2.2.2.1,y.2.2.1.2.2.2.2.1,()),())∧Zm40_3 r (y.1,IntKind.wrap IntKind.i64 (y.2.1+(1:Int)),(y.2.2.1.1,y.2.2.1.2.1,y.2.2.1.2.2.1,y.2.2.1.2.2.2.1,y.2.2.1.2.2.2.2.1,()),())<Zm40_3 r y else Li y.1 (↑(posN r.Pats):Int)) (by kernel_rfl)
 dsimp only
 refine⟨⟨rfl,by omega,by omega,rfl⟩,?_⟩
 rintro⟨n,i,⟨b1,b2,b3,b4,b5,⟨⟩⟩,⟨⟩⟩ ⟨hbx,h1,h2,rfl⟩
 cases hbx
 simp only
 refine if_cond (fun hc=> ?_) (fun hc=> ?_)
 ·have hc:=of_decide_eq_true hc
  have hs:=posN_step r.Pats h1 hc
  have hle:posN (r.Pats.take i.toNat)≤i.toNat:=posN_le _ _
  rw[wrap_i64 (n:=i+1) (by omega) (by omega),wrap_i64 (n:=(posN (r.Pats.take i.toNat):Int)+1) (by omega) (by omega)]
  have hm:i.toNat<r.Pats.length:=by omega
  refine⟨by omega,by omega,if_cond (fun h=>⟨⟨rfl,by omega,by omega,?_⟩,by simp only[Zm40_3];omega⟩) (fun h=>⟨⟨rfl,by omega,by omega,?_⟩,by simp only[Zm40_3];omega⟩)⟩
  ·rw[hs,if_pos h];omega
  ·rw[hs,if_neg (by rw[h];decide)];omega
 ·have hc:=of_decide_eq_false hc
  rw[take_all r.Pats (by omega)]
  exact Lf_rfl _
def Zh40:HH:=⟨_,Zo40⟩
def Zk93:Con UU where
 α:=DRule
 md:=[.ro]
 of:=o1 (oA .eRule)
 ds:=fun x=>[dA .eRule x]
 pre:=fun _=>[]
 res:=fun r=>⟨[dI (posN r.Pats:Int)],true,[]⟩
 law:=l1 (lA .eRule)
def Zi93_3(r:DRule):Int×Int×Unit→Prop:=fun(n,i,_)=>0≤i∧i≤r.Pats.length∧n=posN (r.Pats.take i.toNat)
def Zm93_3(r:DRule):Int×Int×Unit→Nat:=fun(n,i,_)=>r.Pats.length-i.toNat
def Za93:Zk93.α→Nat→Option (Ann UU):=fun r=>annL [(3,annOf [.slot 3 (3,1024) (.lit (.int .i64)),.slot 9 (9,1024) (.lit (.int .i64))] (fun _=>Zi93_3 r) (Zm93_3 r))]
def Zu93:List (FuncId×Con UU):=[]
theorem Zo93:Holds EE (93,Zk93):=by
 refine holds_of EE_ok func93 Zk93 (by kernel_rfl) Zu93 all_nil Za93 (fun(r:DRule) hp hb=> ?_)
 have hz0:=bd_eRule (x:=r) (hb _ m0)
 have hl_r_Name:=hz0.1
 have hl_r_Pats:=hz0.2.1
 have hl_r_Conds:=hz0.2.2.1
 have hl_r_Acts:=hz0.2.2.2
 clear hp hb
 apply @ve _ (Zi93_3 r ((0:Int),(0:Int),())∧∀(y:Int×Int×PUnit),let x0:Nat:=y.2.1.toNat;Zi93_3 r y→bif decide (y.2.1<(r.Pats.length:Int)) then(0:Int)≤y.2.1∧x0<r.Pats.length∧bif !(List.getD r.Pats x0 zPat).Not then Zi93_3 r (IntKind.wrap IntKind.i64 (y.1+(1:Int)),IntKind.wrap IntKind.i64 (y.2.1+(1:Int)),())∧Zm93_3 r (IntKind.wrap IntKind.i64 (y.1+(1:Int)),IntKind.wrap IntKind.i64 (y.2.1+(1:Int)),())<Zm93_3 r y else Zi93_3 r (y.1,IntKind.wrap IntKind.i64 (y.2.1+(1:Int)),())∧Zm93_3 r (y.1,IntKind.wrap IntKind.i64 (y.2.1+(1:Int)),())<Zm93_3 r y else Li y.1 (↑(posN r.Pats):Int)) (by kernel_rfl)
 dsimp only
 refine⟨⟨by omega,by omega,rfl⟩,?_⟩
 rintro⟨n,i,⟨⟩⟩ ⟨h1,h2,rfl⟩
 simp only
 refine if_cond (fun hc=> ?_) (fun hc=> ?_)
 ·have hc:=of_decide_eq_true hc
  have hs:=posN_step r.Pats h1 hc
  have hle:posN (r.Pats.take i.toNat)≤i.toNat:=posN_le _ _
  rw[wrap_i64 (n:=i+1) (by omega) (by omega),wrap_i64 (n:=(posN (r.Pats.take i.toNat):Int)+1) (by omega) (by omega)]
  have hm:i.toNat<r.Pats.length:=by omega
  refine⟨by omega,by omega,if_cond (fun h=>⟨⟨by omega,by omega,?_⟩,by simp only[Zm93_3];omega⟩) (fun h=>⟨⟨by omega,by omega,?_⟩,by simp only[Zm93_3];omega⟩)⟩
  ·rw[hs,if_pos h];omega
  ·rw[hs,if_neg (by rw[h];decide)];omega
 ·have hc:=of_decide_eq_false hc
  rw[take_all r.Pats (by omega)]
  exact Lf_rfl _
def Zh93:HH:=⟨_,Zo93⟩
def Zk222:Con UU where
 α:=DPat
 md:=[.ro]
 of:=o1 (oA .ePat)
 ds:=fun x=>[dA .ePat x]
 pre:=fun p=>[p.Args.length≤4294967296]
 res:=fun p=>⟨[dL .str (addVars [] p.Args)],true,[]⟩
 law:=l1 (lA .ePat)
def Zi222_3(p:DPat):List ByteArray×Int×(ByteArray×List DArg×Bool×Unit)×Unit→Prop:=fun(l,i,b,_)=>b=(p.Kind,p.Args,p.Not,())∧0≤i∧i≤p.Args.length∧l=addVars [] (p.Args.take i.toNat)
def Zm222_3(p:DPat):List ByteArray×Int×(ByteArray×List DArg×Bool×Unit)×Unit→Nat:=fun(l,i,b,_)=>p.Args.length-i.toNat
def Za222:Zk222.α→Nat→Option (Ann UU):=fun p=>annL [(3,annOf [.slot 3 (3,1024) (.own .str true),.slot 4 (4,1024) (.lit (.int .i64)),.box 1 (1,1024) [.lit .str,.shr .eArg,.lit .bool]] (fun _=>Zi222_3 p) (Zm222_3 p))]
def Zu222:=us [Zh223]
theorem Zo222:Holds EE (222,Zk222):=by
 refine holds_of EE_ok func222 Zk222 (by kernel_rfl) Zu222 (us_ok _) Za222 (fun(p:DPat) hp hb=> ?_)
 have hz0:=bd_ePat (x:=p) (hb _ m0)
 have hl_p_Kind:=hz0.1
 have hl_p_Args:=hz0.2
 have hp0:p.Args.length≤4294967296:=hp _ m0
 clear hp hb
 apply @ve _ (Zi222_3 p ([],(0:Int),(p.Kind,p.Args,p.Not,()),())∧∀(y:List ByteArray×Int×(ByteArray×List DArg×Bool×PUnit)×PUnit),let x4:Nat:=y.2.2.1.2.1.length;let x5:Nat:=y.2.1.toNat;let x2:DArg:=List.getD y.2.2.1.2.1 x5 zArg;let x3:Int:=(↑x4:Int);let x1:ByteArray:=x2.S;let x0:List ByteArray:=[x1];Zi222_3 p y→bif decide (y.2.1<x3) then(0:Int)≤y.2.1∧x5<x4∧bif x2.K==(1:Int) then(0:Int)≤y.2.1∧x5<x4∧bif !hasS y.1 x1 then(0:Int)≤y.2.1∧x5<x4∧y.1.length+x0.length≤(4294967296:Nat)∧Zi222_3 p (y.1++x0,IntKind.wrap IntKind.i64 (y.2.1+(1:Int)),(y.2.2.1.1,y.2.2.1.2.1,y.2.2.1.2.2.1,()),())∧Zm222_3 p (y.1++x0,IntKind.wrap IntKind.i64 (y.2.1+(1:Int)),(y.2.2.1.1,y.2.2.1.2.1,y.2.2.1.2.2.1,()),())<Zm222_3 p y else Zi222_3 p (y.1,IntKind.wrap IntKind.i64 (y.2.1+(1:Int)),(y.2.2.1.1,y.2.2.1.2.1,y.2.2.1.2.2.1,()),())∧Zm222_3 p (y.1,IntKind.wrap IntKind.i64 (y.2.1+(1:Int)),(y.2.2.1.1,y.2.2.1.2.1,y.2.2.1.2.2.1,()),())<Zm222_3 p y else Zi222_3 p (y.1,IntKind.wrap IntKind.i64 (y.2.1+(1:Int)),(y.2.2.1.1,y.2.2.1.2.1,y.2.2.1.2.2.1,()),())∧Zm222_3 p (y.1,IntKind.wrap IntKind.i64 (y.2.1+(1:Int)),(y.2.2.1.1,y.2.2.1.2.1,y.2.2.1.2.2.1,()),())<Zm222_3 p y else Lf [VL .str y.1] [VL .str (addVars [] p.Args)]) (by kernel_rfl)
 dsimp only
 refine⟨⟨rfl,by omega,by omega,rfl⟩,?_⟩
 rintro⟨l,i,⟨b1,b2,b3,⟨⟩⟩,⟨⟩⟩ ⟨hbx,h1,h2,rfl⟩
 cases hbx
 simp only
 refine if_cond (fun hc=> ?_) (fun hc=> ?_)
 ·have hc:=of_decide_eq_true hc
  have hs:=addVars_step [] p.Args h1 hc
  have hl:=addVars_len (p.Args.take i.toNat) []
  have hl2:(p.Args.take i.toNat).length≤i.toNat:=by rw[zaw];omega
  simp only[zbo] at hl
  rw[wrap_i64 (by omega) (by omega)]
  have hm:∀x:List ByteArray,Zm222_3 p (x,i+1,(p.Kind,p.Args,p.Not,PUnit.unit),PUnit.unit)<Zm222_3 p (addVars [] (p.Args.take i.toNat),i,(p.Kind,p.Args,p.Not,PUnit.unit),PUnit.unit):=fun x=>by simp only[Zm222_3];omega
  refine⟨by omega,by omega,if_cond (fun h=>⟨by omega,by omega,if_cond (fun g=>⟨by omega,by omega,by simp;omega,⟨rfl,by omega,by omega,?_⟩,hm _⟩) (fun g=>⟨⟨rfl,by omega,by omega,?_⟩,hm _⟩)⟩) (fun h=>⟨⟨rfl,by omega,by omega,?_⟩,hm _⟩)⟩
  ·rw[hs,addVar,if_pos (eq_of_beq h),addOnce,if_neg (by simpa using g)]
  ·rw[hs,addVar,if_pos (eq_of_beq h),addOnce,if_pos (by simpa using g)]
  ·rw[hs,addVar,if_neg (fun e=>by rw[e] at h;simp at h)]
 ·have hc:=of_decide_eq_false hc
  rw[take_all p.Args (by omega)]
  exact Lf_rfl _
def Zh222:HH:=⟨_,Zo222⟩
end
end AM
