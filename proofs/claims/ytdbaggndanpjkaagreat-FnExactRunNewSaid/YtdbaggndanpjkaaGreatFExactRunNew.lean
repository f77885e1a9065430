/- Functions of the program with their contracts: put together by gen/link.py for FnExactRunNew. -/
import Derived.Test.YtdbaggndanpjkaaGreatAmLib
namespace AM
open Go
set_option linter.unusedVariables false
set_option linter.unusedSimpArgs false
set_option maxRecDepth 100000
noncomputable section
instance:DecidableEq DVal:=fun _ _=>Classical.propDecidable _
instance:DecidableEq DFact:=fun _ _=>Classical.propDecidable _
instance:DecidableEq DItem:=fun _ _=>Classical.propDecidable _
instance:DecidableEq DStore:=fun _ _=>Classical.propDecidable _
instance:DecidableEq DToken:=fun _ _=>Classical.propDecidable _
instance:DecidableEq DArg:=fun _ _=>Classical.propDecidable _
instance:DecidableEq DPat:=fun _ _=>Classical.propDecidable _
instance:DecidableEq DBind:=fun _ _=>Classical.propDecidable _
instance:DecidableEq DCond:=fun _ _=>Classical.propDecidable _
instance:DecidableEq DExpr:=fun _ _=>Classical.propDecidable _
instance:DecidableEq DAct:=fun _ _=>Classical.propDecidable _
instance:DecidableEq DRule:=fun _ _=>Classical.propDecidable _
instance:DecidableEq DDef:=fun _ _=>Classical.propDecidable _
instance:DecidableEq DMatch:=fun _ _=>Classical.propDecidable _
instance:DecidableEq DAlpha:=fun _ _=>Classical.propDecidable _
instance:DecidableEq DChain:=fun _ _=>Classical.propDecidable _
instance:DecidableEq DNet:=fun _ _=>Classical.propDecidable _
instance:DecidableEq DIds:=fun _ _=>Classical.propDecidable _
instance:DecidableEq DTok:=fun _ _=>Classical.propDecidable _
instance:DecidableEq DLevel:=fun _ _=>Classical.propDecidable _
instance:DecidableEq DRow:=fun _ _=>Classical.propDecidable _
instance:DecidableEq DMem:=fun _ _=>Classical.propDecidable _
instance:DecidableEq DEffect:=fun _ _=>Classical.propDecidable _
instance:DecidableEq DTimer:=fun _ _=>Classical.propDecidable _
instance:DecidableEq DTask:=fun _ _=>Classical.propDecidable _
instance:DecidableEq DCall:=fun _ _=>Classical.propDecidable _
instance:DecidableEq DUndo:=fun _ _=>Classical.propDecidable _
instance:DecidableEq DInst:=fun _ _=>Classical.propDecidable _
instance:DecidableEq DRun:=fun _ _=>Classical.propDecidable _
instance:DecidableEq DOp:=fun _ _=>Classical.propDecidable _
instance:DecidableEq DWork:=fun _ _=>Classical.propDecidable _
instance:DecidableEq DBook:=fun _ _=>Classical.propDecidable _
instance:DecidableEq DSent:=fun _ _=>Classical.propDecidable _
def mtl:Nat→Nat→List UInt8→List UInt8
 |0,_,acc=>acc
 |d+1,k,acc=>if k=0 then acc else mtl d (k/10) ((UInt8.ofNat (48+k%10))::acc)
def markText(k:Int):ByteArray:=if k≤0 then⟨#[109,48]⟩ else⟨(109::mtl k.toNat k.toNat []).toArray⟩
def markBool(k:Int):Bool:=decide (k%3=0)
def mkS{α:Type}(f:α→Int→α)(c:α→Nat):List α→Int→List α
 |[],_=>[]
 |x::r,k=>f x k::mkS f c r (k+c x)
def ctS{α:Type}(c:α→Nat)(l:List α):Nat:=(l.map c).sum
theorem mkS_len{α:Type}(f:α→Int→α)(c:α→Nat):∀(l:List α)(k:Int),(mkS f c l k).length=l.length
 |[],_=>rfl
 |x::r,k=>by simp[mkS,mkS_len f c r]
theorem mkS_ct{α:Type}{f:α→Int→α}{c:α→Nat}(h:∀x k,c (f x k)=c x):∀(l:List α)(k:Int),ctS c (mkS f c l k)=ctS c l
 |[],_=>rfl
 |x::r,k=>by have:=mkS_ct h r (k+c x);simp only[ctS,mkS,List.map_cons,List.sum_cons,h] at*;omega
theorem mkS_idem{α:Type}{f:α→Int→α}{c:α→Nat}(h:∀x k,c (f x k)=c x)(h':∀x k,f (f x k) k=f x k):∀(l:List α)(k:Int),mkS f c (mkS f c l k) k=mkS f c l k
 |[],_=>rfl
 |x::r,k=>by simp only[mkS,h,h',mkS_idem h h' r]
theorem ctS_cons{α:Type}(c:α→Nat)(x:α)(l:List α):ctS c (x::l)=c x+ctS c l:=by simp[ctS]
theorem ctS_append{α:Type}(c:α→Nat)(l m:List α):ctS c (l++m)=ctS c l+ctS c m:=by simp[ctS]
theorem ctS_le{α:Type}{c s:α→Nat}(h:∀x,c x≤20*s x+20):∀l:List α,ctS c l≤20*(l.length+(l.map s).sum)
 |[]=>Nat.le_refl _
 |x::r=>by have:=ctS_le h r;have:=h x;simp only[ctS,List.map_cons,List.sum_cons,List.length_cons] at*;omega
theorem ctS_take{α:Type}(c:α→Nat)(l:List α)(z:α){i:Int}(h0:0≤i)(h:i<l.length):ctS c (l.take (i+1).toNat)=ctS c (l.take i.toNat)+c (List.getD l i.toNat z):=by
 have hn:i.toNat<l.length:=by omega
 have e:(i+1).toNat=i.toNat+1:=by omega
 rw[e,List.take_succ_eq_append_getElem hn,ctS_append,List.getD_eq_getElem?_getD,List.getElem?_eq_getElem hn]
 simp[ctS]
theorem ctS_take_le{α:Type}(c:α→Nat)(l:List α)(n:Nat):ctS c (l.take n)≤ctS c l:=by
 have h:=ctS_append c (l.take n) (l.drop n)
 rw[List.take_append_drop] at h
 omega
theorem mkS_append{α:Type}(f:α→Int→α)(c:α→Nat):∀(l m:List α)(k:Int),mkS f c (l++m) k=mkS f c l k++mkS f c m (k+ctS c l)
 |[],m,k=>by simp[mkS,ctS]
 |x::r,m,k=>by simp only[List.cons_append,mkS,mkS_append f c r m,ctS_cons];congr 3;omega
theorem mkS_step{α:Type}(f:α→Int→α)(c:α→Nat)(l:List α)(z:α)(k:Int){i:Int}(h0:0≤i)(h:i<l.length):
  ((mkS f c l k).take i.toNat++l.drop i.toNat).set i.toNat (f (List.getD l i.toNat z) (k+ctS c (l.take i.toNat)))=(mkS f c l k).take (i+1).toNat++l.drop (i+1).toNat:=by
 have hn:i.toNat<l.length:=by omega
 have e:(i+1).toNat=i.toNat+1:=by omega
 have hl:((mkS f c l k).take i.toNat).length=i.toNat:=by rw[List.length_take,mkS_len];omega
 have hm:(mkS f c l k)[i.toNat]? =some (f (List.getD l i.toNat z) (k+ctS c (l.take i.toNat))):=by
  have h1:l=l.take i.toNat++List.getD l i.toNat z::l.drop (i+1).toNat:=by rw[←drop_step l z h0 h,List.take_append_drop]
  have h2:=congrArg (fun q=>(mkS f c q k)[i.toNat]?) h1
  simp only[mkS_append,mkS] at h2
  rw[h2,List.getElem?_append_right (by rw[mkS_len,List.length_take];omega),mkS_len]
  have:i.toNat-(l.take i.toNat).length=0:=by simp;omega
  rw[this];rfl
 have hm':i.toNat<(mkS f c l k).length:=by rw[mkS_len];exact hn
 rw[List.getElem?_eq_getElem hm',Option.some.injEq] at hm
 rw[drop_step l z h0 h,List.set_append_right _ _ (by rw[hl];exact Nat.le_refl _),hl,Nat.sub_self,List.set_cons_zero,e,List.take_succ_eq_append_getElem hm',hm,List.append_assoc]
 rfl
theorem mk_getD{α:Type}(p:List α)(l:List α)(z:α){i:Int}(hp:p.length=i.toNat)(h0:0≤i)(h:i<l.length):List.getD (p++l.drop i.toNat) i.toNat z=List.getD l i.toNat z:=by
 rw[List.getD_eq_getElem?_getD,List.getD_eq_getElem?_getD,List.getElem?_append_right (by omega),hp,Nat.sub_self,List.getElem?_drop,Nat.add_zero]
theorem sum_getD_le{α:Type}(f:α→Nat)(l:List α)(z:α){i:Int}(h0:0≤i)(h:i<l.length):f (List.getD l i.toNat z)≤(l.map f).sum:=by
 have h1:l=l.take i.toNat++List.getD l i.toNat z::l.drop (i+1).toNat:=by rw[←drop_step l z h0 h,List.take_append_drop]
 have h2:=congrArg (fun q=>(q.map f).sum) h1
 simp only[List.map_append,List.map_cons,List.sum_append,List.sum_cons] at h2
 omega
theorem getD_modify{α:Type}(l:List α)(z:α)(f:α→α)(i:Nat)(h:i<l.length):List.getD (l.modify i f) i z=f (List.getD l i z):=by
 rw[List.getD_eq_getElem?_getD,List.getD_eq_getElem?_getD,List.getElem?_modify,List.getElem?_eq_getElem h];simp
theorem modify_modify{α:Type}(l:List α)(f g:α→α)(i:Nat):(l.modify i f).modify i g=l.modify i (fun x=>g (f x)):=List.modify_modify_eq f g i l
theorem modify_set{α:Type}(l:List α)(z:α)(f:α→α)(i:Nat):l.modify i f=l.set i (f (List.getD l i z)):=by
 refine List.ext_getElem? fun j=> ?_
 rw[List.getElem?_modify,List.getElem?_set]
 by_cases hj:i=j
 ·subst hj
  rw[if_pos rfl]
  by_cases hi:i<l.length
  ·rw[if_pos hi,List.getElem?_eq_getElem hi,List.getD_eq_getElem?_getD,List.getElem?_eq_getElem hi];simp
  ·rw[if_neg hi,List.getElem?_eq_none (by omega)];rfl
 ·rw[if_neg hj];simp[hj]
theorem mk_tl{α:Type}(f:α→Int→α)(c:α→Nat)(l:List α)(k:Int){i:Int}(h0:0≤i)(h:i≤l.length):((mkS f c l k).take i.toNat).length=i.toNat:=by rw[List.length_take,mkS_len];omega
theorem mk_rl{α:Type}(f:α→Int→α)(c:α→Nat)(l:List α)(k:Int){i:Int}(h0:0≤i)(h:i≤l.length):((mkS f c l k).take i.toNat++l.drop i.toNat).length=l.length:=by rw[List.length_append,mk_tl f c l k h0 h,List.length_drop];omega
theorem mkS_mod{α:Type}(f:α→Int→α)(c:α→Nat)(l:List α)(z:α)(k:Int){i:Int}(F:α→α)(h0:0≤i)(h:i<l.length)(hF:F (List.getD l i.toNat z)=f (List.getD l i.toNat z) (k+ctS c (l.take i.toNat))):
  ((mkS f c l k).take i.toNat++l.drop i.toNat).modify i.toNat F=(mkS f c l k).take (i+1).toNat++l.drop (i+1).toNat:=by
 rw[modify_set _ z,mk_getD _ l z (mk_tl f c l k h0 (by omega)) h0 h,hF]
 exact mkS_step f c l z k h0 h
theorem mk_done{α:Type}(f:α→Int→α)(c:α→Nat)(l:List α)(k:Int){i:Int}(h:l.length≤i):(mkS f c l k).take i.toNat++l.drop i.toNat=mkS f c l k:=by
 rw[List.drop_eq_nil_of_le (by omega),List.append_nil,List.take_of_length_le (by rw[mkS_len];omega)]
theorem ct_done{α:Type}(c:α→Nat)(l:List α){i:Int}(h:l.length≤i):ctS c (l.take i.toNat)=ctS c l:=by rw[List.take_of_length_le (by omega)]
theorem Lf_no{p:Prop}[Decidable p]{n:Int}(h:¬p):Lf [.one (.lit (.int .i64 (-1)))] [.one (.lit (.int .i64 (if p then n else-1)))]:=by rw[if_neg h];exact Lf_rfl _
theorem Lf_yes{p:Prop}[Decidable p]{m n:Int}(h:p)(e:m=n):Lf [.one (.lit (.int .i64 m))] [.one (.lit (.int .i64 (if p then n else-1)))]:=by rw[if_pos h,e];exact Lf_rfl _
theorem bne_int{a b:Int}:(a !=b)= !decide (a=b):=by by_cases h:a=b<;>simp[h,bne]
theorem mtl_zero(d:Nat)(acc:List UInt8):mtl d 0 acc=acc:=by cases d<;>simp[mtl]
theorem all_step{α:Type}(p:α→Bool)(l:List α)(z:α){i:Int}(h0:0≤i)(h:i<l.length):(l.drop i.toNat).all p=(p (List.getD l i.toNat z)&&(l.drop (i+1).toNat).all p):=by
 rw[drop_step l z h0 h,List.all_cons]
def bs(s:ByteArray):List UInt8:=s.data.toList
theorem bs_len(s:ByteArray):(bs s).length=s.size:=Array.length_toList
theorem bs_eq(s:ByteArray):Array.toList (ByteArray.data s)=bs s:=rfl
def byteP(p:Int→Bool)(b:UInt8):Bool:=p b.toNat
theorem u8_i64(b:UInt8):IntKind.wrap .i64 (b.toNat:Int)=b.toNat:=wrap_i64 (by omega) (by have:=b.toNat_lt;omega)
theorem Lf_tt{y:Bool}(h:y=true):Lf [.one (.lit (.bool true))] [.one (.lit (.bool y))]:=Lf_b h.symm
theorem Lf_ff{y:Bool}(h:y=false):Lf [.one (.lit (.bool false))] [.one (.lit (.bool y))]:=Lf_b h.symm
theorem take_step{α:Type}(l:List α)(z:α){i:Int}(h0:0≤i)(h:i<l.length):l.take i.toNat++[List.getD l i.toNat z]=l.take (i+1).toNat:=by
 have hn:i.toNat<l.length:=by omega
 have e:(i+1).toNat=i.toNat+1:=by omega
 rw[e,List.take_succ_eq_append_getElem hn,List.getD_eq_getElem?_getD,List.getElem?_eq_getElem hn]
 rfl
theorem take_all{α:Type}(l:List α){i:Int}(h:l.length≤i):l.take i.toNat=l:=List.take_of_length_le (by omega)
theorem getD_mem{α:Type}(l:List α)(z:α){i:Int}(h0:0≤i)(h:i<l.length):List.getD l i.toNat z∈l:=by
 have hn:i.toNat<l.length:=by omega
 rw[List.getD_eq_getElem?_getD,List.getElem?_eq_getElem hn]
 exact List.getElem_mem hn
theorem szr_neg{a:Int}{n:Nat}(h:decide (szr a n<0)=true):a<n:=by
 have h:=of_decide_eq_true h
 unfold szr at h;split at h<;>omega
theorem szr_pos{a:Int}{n:Nat}(h:decide (szr a n<0)=false):szr a n=a-n∧(n:Int)≤a:=by
 have h:=of_decide_eq_false h
 unfold szr at h⊢;split at h
 ·rename_i g;rw[if_pos g];exact⟨rfl,g⟩
 ·omega
theorem szr_bad'{a:Int}{n:Nat}(h:a<n): -1=szr a n:=by simp only[szr];rw[if_neg (by omega)]
theorem szr_ok'{a:Int}{n:Nat}(h:(n:Int)≤a):a-n=szr a n:=by simp only[szr];rw[if_pos h]
def markIntS:List Int→Int→List Int:=mkS (fun _ k=>k) (fun _=>1)
def cntIntS(l:List Int):Nat:=ctS (fun _=>1) l
theorem markIntS_ct(l:List Int)(k:Int):cntIntS (markIntS l k)=cntIntS l:=mkS_ct (c:=fun _=>1) (fun _ _=>rfl) l k
theorem markIntS_idem(l:List Int)(k:Int):markIntS (markIntS l k) k=markIntS l k:=mkS_idem (f:=fun _ k=>k) (c:=fun _=>1) (fun _ _=>rfl) (fun _ _=>rfl) l k
def sizeVal(a:DVal):Nat:=a.S.size
def markVal(a:DVal)(k:Int):DVal:=⟨k,(k+1),markText (k+1+1)⟩
def cntVal(a:DVal):Nat:=1+1+1
def markValS:List DVal→Int→List DVal:=mkS markVal cntVal
def cntValS(l:List DVal):Nat:=ctS cntVal l
theorem markVal_ct(a:DVal)(k:Int):cntVal (markVal a k)=cntVal a:=by simp only[cntVal,markVal]
theorem markVal_idem(a:DVal)(k:Int):markVal (markVal a k) k=markVal a k:=by simp only[markVal]
theorem markValS_ct(l:List DVal)(k:Int):cntValS (markValS l k)=cntValS l:=mkS_ct markVal_ct l k
theorem markValS_idem(l:List DVal)(k:Int):markValS (markValS l k) k=markValS l k:=mkS_idem markVal_ct markVal_idem l k
def markItem(a:DItem)(k:Int):DItem:=⟨k,⟨markText (k+1),markValS a.F.Fields (k+1+1)⟩⟩
def cntItem(a:DItem):Nat:=1+1+cntValS a.F.Fields
def markItemS:List DItem→Int→List DItem:=mkS markItem cntItem
def cntItemS(l:List DItem):Nat:=ctS cntItem l
theorem markItem_ct(a:DItem)(k:Int):cntItem (markItem a k)=cntItem a:=by simp only[cntItem,markItem,markValS_ct]
theorem markItem_idem(a:DItem)(k:Int):markItem (markItem a k) k=markItem a k:=by simp only[markItem,markValS_ct,markValS_idem]
theorem markItemS_ct(l:List DItem)(k:Int):cntItemS (markItemS l k)=cntItemS l:=mkS_ct markItem_ct l k
theorem markItemS_idem(l:List DItem)(k:Int):markItemS (markItemS l k) k=markItemS l k:=mkS_idem markItem_ct markItem_idem l k
def mkStore(a:DStore)(k:Int):DStore:=⟨markItemS a.Items k,a.Next⟩
def ctStore(a:DStore):Nat:=cntItemS a.Items
theorem mkStore_ct(a:DStore)(k:Int):ctStore (mkStore a k)=ctStore a:=by simp only[ctStore,mkStore,markItemS_ct]
theorem mkStore_idem(a:DStore)(k:Int):mkStore (mkStore a k) k=mkStore a k:=by simp only[mkStore,markItemS_ct,markItemS_idem]
def sizeArg(a:DArg):Nat:=a.S.size+sizeVal a.V
def sizeArgS(l:List DArg):Nat:=l.length+(l.map sizeArg).sum
def markArg(a:DArg)(k:Int):DArg:=⟨k,markText (k+1),⟨(k+1+1),(k+1+1+1),markText (k+1+1+1+1)⟩⟩
def cntArg(a:DArg):Nat:=1+1+1+1+1
def markArgS:List DArg→Int→List DArg:=mkS markArg cntArg
def cntArgS(l:List DArg):Nat:=ctS cntArg l
theorem cntArg_le(a:DArg):cntArg a≤20*sizeArg a+20:=by simp only[cntArg,sizeArg,sizeVal];omega
theorem cntArgS_le(l:List DArg):cntArgS l≤20*sizeArgS l:=ctS_le cntArg_le l
def sizePat(a:DPat):Nat:=a.Kind.size+sizeArgS a.Args
def sizePatS(l:List DPat):Nat:=l.length+(l.map sizePat).sum
def markPat(a:DPat)(k:Int):DPat:=⟨markText k,markArgS a.Args (k+1),markBool (k+1+cntArgS a.Args)⟩
def cntPat(a:DPat):Nat:=1+cntArgS a.Args+1
def markPatS:List DPat→Int→List DPat:=mkS markPat cntPat
def cntPatS(l:List DPat):Nat:=ctS cntPat l
theorem cntPat_le(a:DPat):cntPat a≤20*sizePat a+20:=by have:=cntArgS_le a.Args;simp only[cntPat,sizePat];omega
theorem cntPatS_le(l:List DPat):cntPatS l≤20*sizePatS l:=ctS_le cntPat_le l
def markBind(a:DBind)(k:Int):DBind:=⟨markText k,⟨(k+1),(k+1+1),markText (k+1+1+1)⟩⟩
def cntBind(a:DBind):Nat:=1+1+1+1
def markBindS:List DBind→Int→List DBind:=mkS markBind cntBind
def cntBindS(l:List DBind):Nat:=ctS cntBind l
theorem markBind_ct(a:DBind)(k:Int):cntBind (markBind a k)=cntBind a:=by simp only[cntBind,markBind]
theorem markBind_idem(a:DBind)(k:Int):markBind (markBind a k) k=markBind a k:=by simp only[markBind]
theorem markBindS_ct(l:List DBind)(k:Int):cntBindS (markBindS l k)=cntBindS l:=mkS_ct markBind_ct l k
theorem markBindS_idem(l:List DBind)(k:Int):markBindS (markBindS l k) k=markBindS l k:=mkS_idem markBind_ct markBind_idem l k
def sizeCond(a:DCond):Nat:=sizeArg a.L+sizeArg a.R
def sizeCondS(l:List DCond):Nat:=l.length+(l.map sizeCond).sum
def markCond(a:DCond)(k:Int):DCond:=⟨k,⟨(k+1),markText (k+1+1),⟨(k+1+1+1),(k+1+1+1+1),markText (k+1+1+1+1+1)⟩⟩,⟨(k+1+1+1+1+1+1),markText (k+1+1+1+1+1+1+1),⟨(k+1+1+1+1+1+1+1+1),(k+1+1+1+1+1+1+1+1+1),markText (k+1+1+1+1+1+1+1+1+1+1)⟩⟩⟩
def cntCond(a:DCond):Nat:=1+1+1+1+1+1+1+1+1+1+1
def markCondS:List DCond→Int→List DCond:=mkS markCond cntCond
def cntCondS(l:List DCond):Nat:=ctS cntCond l
theorem cntCond_le(a:DCond):cntCond a≤20*sizeCond a+20:=by simp only[cntCond,sizeArg,sizeCond,sizeVal];omega
theorem cntCondS_le(l:List DCond):cntCondS l≤20*sizeCondS l:=ctS_le cntCond_le l
def sizeExpr(a:DExpr):Nat:=a.Op.size+sizeArg a.L+sizeArg a.R
def sizeExprS(l:List DExpr):Nat:=l.length+(l.map sizeExpr).sum
def markExpr(a:DExpr)(k:Int):DExpr:=⟨markText k,⟨(k+1),markText (k+1+1),⟨(k+1+1+1),(k+1+1+1+1),markText (k+1+1+1+1+1)⟩⟩,⟨(k+1+1+1+1+1+1),markText (k+1+1+1+1+1+1+1),⟨(k+1+1+1+1+1+1+1+1),(k+1+1+1+1+1+1+1+1+1),markText (k+1+1+1+1+1+1+1+1+1+1)⟩⟩⟩
def cntExpr(a:DExpr):Nat:=1+1+1+1+1+1+1+1+1+1+1
def markExprS:List DExpr→Int→List DExpr:=mkS markExpr cntExpr
def cntExprS(l:List DExpr):Nat:=ctS cntExpr l
theorem cntExpr_le(a:DExpr):cntExpr a≤20*sizeExpr a+20:=by simp only[cntExpr,sizeArg,sizeExpr,sizeVal];omega
theorem cntExprS_le(l:List DExpr):cntExprS l≤20*sizeExprS l:=ctS_le cntExpr_le l
def sizeAct(a:DAct):Nat:=a.Name.size+sizeExprS a.Args+a.Undo.size
def sizeActS(l:List DAct):Nat:=l.length+(l.map sizeAct).sum
def markAct(a:DAct)(k:Int):DAct:=⟨k,markText (k+1),markExprS a.Args (k+1+1),(k+1+1+cntExprS a.Args),markText (k+1+1+cntExprS a.Args+1)⟩
def cntAct(a:DAct):Nat:=1+1+cntExprS a.Args+1+1
def markActS:List DAct→Int→List DAct:=mkS markAct cntAct
def cntActS(l:List DAct):Nat:=ctS cntAct l
theorem cntAct_le(a:DAct):cntAct a≤20*sizeAct a+20:=by have:=cntExprS_le a.Args;simp only[cntAct,sizeAct];omega
theorem cntActS_le(l:List DAct):cntActS l≤20*sizeActS l:=ctS_le cntAct_le l
def sizeRule(a:DRule):Nat:=a.Name.size+sizePatS a.Pats+sizeCondS a.Conds+sizeActS a.Acts
def sizeRuleS(l:List DRule):Nat:=l.length+(l.map sizeRule).sum
def markRule(a:DRule)(k:Int):DRule:=⟨markText k,(k+1),markPatS a.Pats (k+1+1),markCondS a.Conds (k+1+1+cntPatS a.Pats),markActS a.Acts (k+1+1+cntPatS a.Pats+cntCondS a.Conds)⟩
def cntRule(a:DRule):Nat:=1+1+cntPatS a.Pats+cntCondS a.Conds+cntActS a.Acts
def markRuleS:List DRule→Int→List DRule:=mkS markRule cntRule
def cntRuleS(l:List DRule):Nat:=ctS cntRule l
theorem cntRule_le(a:DRule):cntRule a≤20*sizeRule a+20:=by have:=cntPatS_le a.Pats;have:=cntCondS_le a.Conds;have:=cntActS_le a.Acts;simp only[cntRule,sizeRule];omega
theorem cntRuleS_le(l:List DRule):cntRuleS l≤20*sizeRuleS l:=ctS_le cntRule_le l
def sizeDef(a:DDef):Nat:=a.Name.size+sizeRuleS a.Rules
def mkDef(a:DDef)(k:Int):DDef:=⟨a.Name,markRuleS a.Rules k⟩
def ctDef(a:DDef):Nat:=cntRuleS a.Rules
theorem ctDef_le(a:DDef):ctDef a≤20*sizeDef a:=by have:=cntRuleS_le a.Rules;simp only[ctDef,sizeDef];omega
def markMatch(a:DMatch)(k:Int):DMatch:=⟨k,markIntS a.Ids (k+1),markBindS a.Binds (k+1+cntIntS a.Ids)⟩
def cntMatch(a:DMatch):Nat:=1+cntIntS a.Ids+cntBindS a.Binds
def markMatchS:List DMatch→Int→List DMatch:=mkS markMatch cntMatch
def cntMatchS(l:List DMatch):Nat:=ctS cntMatch l
theorem markMatch_ct(a:DMatch)(k:Int):cntMatch (markMatch a k)=cntMatch a:=by simp only[cntMatch,markMatch,markBindS_ct,markIntS_ct]
theorem markMatch_idem(a:DMatch)(k:Int):markMatch (markMatch a k) k=markMatch a k:=by simp only[markMatch,markBindS_ct,markBindS_idem,markIntS_ct,markIntS_idem]
theorem markMatchS_ct(l:List DMatch)(k:Int):cntMatchS (markMatchS l k)=cntMatchS l:=mkS_ct markMatch_ct l k
theorem markMatchS_idem(l:List DMatch)(k:Int):markMatchS (markMatchS l k) k=markMatchS l k:=mkS_idem markMatch_ct markMatch_idem l k
def markIds(a:DIds)(k:Int):DIds:=⟨markIntS a.L k⟩
def cntIds(a:DIds):Nat:=cntIntS a.L
def markIdsS:List DIds→Int→List DIds:=mkS markIds cntIds
def cntIdsS(l:List DIds):Nat:=ctS cntIds l
theorem markIds_ct(a:DIds)(k:Int):cntIds (markIds a k)=cntIds a:=by simp only[cntIds,markIds,markIntS_ct]
theorem markIds_idem(a:DIds)(k:Int):markIds (markIds a k) k=markIds a k:=by simp only[markIds,markIntS_ct,markIntS_idem]
theorem markIdsS_ct(l:List DIds)(k:Int):cntIdsS (markIdsS l k)=cntIdsS l:=mkS_ct markIds_ct l k
theorem markIdsS_idem(l:List DIds)(k:Int):markIdsS (markIdsS l k) k=markIdsS l k:=mkS_idem markIds_ct markIds_idem l k
def markTok(a:DTok)(k:Int):DTok:=⟨markIntS a.Ids k,markIntS a.Hits (k+cntIntS a.Ids)⟩
def cntTok(a:DTok):Nat:=cntIntS a.Ids+cntIntS a.Hits
def markTokS:List DTok→Int→List DTok:=mkS markTok cntTok
def cntTokS(l:List DTok):Nat:=ctS cntTok l
theorem markTok_ct(a:DTok)(k:Int):cntTok (markTok a k)=cntTok a:=by simp only[cntTok,markTok,markIntS_ct]
theorem markTok_idem(a:DTok)(k:Int):markTok (markTok a k) k=markTok a k:=by simp only[markTok,markIntS_ct,markIntS_idem]
theorem markTokS_ct(l:List DTok)(k:Int):cntTokS (markTokS l k)=cntTokS l:=mkS_ct markTok_ct l k
theorem markTokS_idem(l:List DTok)(k:Int):markTokS (markTokS l k) k=markTokS l k:=mkS_idem markTok_ct markTok_idem l k
def markLevel(a:DLevel)(k:Int):DLevel:=⟨markTokS a.Toks k⟩
def cntLevel(a:DLevel):Nat:=cntTokS a.Toks
def markLevelS:List DLevel→Int→List DLevel:=mkS markLevel cntLevel
def cntLevelS(l:List DLevel):Nat:=ctS cntLevel l
theorem markLevel_ct(a:DLevel)(k:Int):cntLevel (markLevel a k)=cntLevel a:=by simp only[cntLevel,markLevel,markTokS_ct]
theorem markLevel_idem(a:DLevel)(k:Int):markLevel (markLevel a k) k=markLevel a k:=by simp only[markLevel,markTokS_ct,markTokS_idem]
theorem markLevelS_ct(l:List DLevel)(k:Int):cntLevelS (markLevelS l k)=cntLevelS l:=mkS_ct markLevel_ct l k
theorem markLevelS_idem(l:List DLevel)(k:Int):markLevelS (markLevelS l k) k=markLevelS l k:=mkS_idem markLevel_ct markLevel_idem l k
def markRow(a:DRow)(k:Int):DRow:=⟨markLevelS a.Levels k⟩
def cntRow(a:DRow):Nat:=cntLevelS a.Levels
def markRowS:List DRow→Int→List DRow:=mkS markRow cntRow
def cntRowS(l:List DRow):Nat:=ctS cntRow l
theorem markRow_ct(a:DRow)(k:Int):cntRow (markRow a k)=cntRow a:=by simp only[cntRow,markRow,markLevelS_ct]
theorem markRow_idem(a:DRow)(k:Int):markRow (markRow a k) k=markRow a k:=by simp only[markRow,markLevelS_ct,markLevelS_idem]
theorem markRowS_ct(l:List DRow)(k:Int):cntRowS (markRowS l k)=cntRowS l:=mkS_ct markRow_ct l k
theorem markRowS_idem(l:List DRow)(k:Int):markRowS (markRowS l k) k=markRowS l k:=mkS_idem markRow_ct markRow_idem l k
def mkMem(a:DMem)(k:Int):DMem:=⟨markIdsS a.Alphas k,markRowS a.Rules (k+cntIdsS a.Alphas)⟩
def ctMem(a:DMem):Nat:=cntIdsS a.Alphas+cntRowS a.Rules
theorem mkMem_ct(a:DMem)(k:Int):ctMem (mkMem a k)=ctMem a:=by simp only[ctMem,mkMem,markIdsS_ct,markRowS_ct]
theorem mkMem_idem(a:DMem)(k:Int):mkMem (mkMem a k) k=mkMem a k:=by simp only[mkMem,markIdsS_ct,markIdsS_idem,markRowS_ct,markRowS_idem]
def markTimer(a:DTimer)(k:Int):DTimer:=⟨k,⟨markText (k+1),markValS a.F.Fields (k+1+1)⟩⟩
def cntTimer(a:DTimer):Nat:=1+1+cntValS a.F.Fields
def markTimerS:List DTimer→Int→List DTimer:=mkS markTimer cntTimer
def cntTimerS(l:List DTimer):Nat:=ctS cntTimer l
theorem markTimer_ct(a:DTimer)(k:Int):cntTimer (markTimer a k)=cntTimer a:=by simp only[cntTimer,markTimer,markValS_ct]
theorem markTimer_idem(a:DTimer)(k:Int):markTimer (markTimer a k) k=markTimer a k:=by simp only[markTimer,markValS_ct,markValS_idem]
theorem markTimerS_ct(l:List DTimer)(k:Int):cntTimerS (markTimerS l k)=cntTimerS l:=mkS_ct markTimer_ct l k
theorem markTimerS_idem(l:List DTimer)(k:Int):markTimerS (markTimerS l k) k=markTimerS l k:=mkS_idem markTimer_ct markTimer_idem l k
def markTask(a:DTask)(k:Int):DTask:=⟨⟨markText k,markValS a.F.Fields (k+1)⟩,markText (k+1+cntValS a.F.Fields),(k+1+cntValS a.F.Fields+1),(k+1+cntValS a.F.Fields+1+1),(k+1+cntValS a.F.Fields+1+1+1),⟨(k+1+cntValS a.F.Fields+1+1+1+1),(k+1+cntValS a.F.Fields+1+1+1+1+1),markText (k+1+cntValS a.F.Fields+1+1+1+1+1+1)⟩⟩
def cntTask(a:DTask):Nat:=1+cntValS a.F.Fields+1+1+1+1+1+1+1
def markTaskS:List DTask→Int→List DTask:=mkS markTask cntTask
def cntTaskS(l:List DTask):Nat:=ctS cntTask l
theorem markTask_ct(a:DTask)(k:Int):cntTask (markTask a k)=cntTask a:=by simp only[cntTask,markTask,markValS_ct]
theorem markTask_idem(a:DTask)(k:Int):markTask (markTask a k) k=markTask a k:=by simp only[markTask,markValS_ct,markValS_idem]
theorem markTaskS_ct(l:List DTask)(k:Int):cntTaskS (markTaskS l k)=cntTaskS l:=mkS_ct markTask_ct l k
theorem markTaskS_idem(l:List DTask)(k:Int):markTaskS (markTaskS l k) k=markTaskS l k:=mkS_idem markTask_ct markTask_idem l k
def markUndo(a:DUndo)(k:Int):DUndo:=⟨markText k,⟨markText (k+1),markValS a.F.Fields (k+1+1)⟩⟩
def cntUndo(a:DUndo):Nat:=1+1+cntValS a.F.Fields
def markUndoS:List DUndo→Int→List DUndo:=mkS markUndo cntUndo
def cntUndoS(l:List DUndo):Nat:=ctS cntUndo l
theorem markUndo_ct(a:DUndo)(k:Int):cntUndo (markUndo a k)=cntUndo a:=by simp only[cntUndo,markUndo,markValS_ct]
theorem markUndo_idem(a:DUndo)(k:Int):markUndo (markUndo a k) k=markUndo a k:=by simp only[markUndo,markValS_ct,markValS_idem]
theorem markUndoS_ct(l:List DUndo)(k:Int):cntUndoS (markUndoS l k)=cntUndoS l:=mkS_ct markUndo_ct l k
theorem markUndoS_idem(l:List DUndo)(k:Int):markUndoS (markUndoS l k) k=markUndoS l k:=mkS_idem markUndo_ct markUndo_idem l k
def mkInst(a:DInst)(k:Int):DInst:=⟨mkStore a.S k,markMatchS a.Fired (k+ctStore a.S),markTaskS a.Tasks (k+ctStore a.S+cntMatchS a.Fired),markTimerS a.Timers (k+ctStore a.S+cntMatchS a.Fired+cntTaskS a.Tasks),markUndoS a.Undos (k+ctStore a.S+cntMatchS a.Fired+cntTaskS a.Tasks+cntTimerS a.Timers),a.State,a.Now⟩
def ctInst(a:DInst):Nat:=ctStore a.S+cntMatchS a.Fired+cntTaskS a.Tasks+cntTimerS a.Timers+cntUndoS a.Undos
theorem mkInst_ct(a:DInst)(k:Int):ctInst (mkInst a k)=ctInst a:=by simp only[ctInst,mkInst,markMatchS_ct,markTaskS_ct,markTimerS_ct,markUndoS_ct,mkStore_ct]
theorem mkInst_idem(a:DInst)(k:Int):mkInst (mkInst a k) k=mkInst a k:=by simp only[mkInst,markMatchS_ct,markMatchS_idem,markTaskS_ct,markTaskS_idem,markTimerS_ct,markTimerS_idem,markUndoS_ct,markUndoS_idem,mkStore_ct,mkStore_idem]
def mkRun(a:DRun)(k:Int):DRun:=⟨mkInst a.X k,mkMem a.M (k+ctInst a.X)⟩
def ctRun(a:DRun):Nat:=ctInst a.X+ctMem a.M
theorem mkRun_ct(a:DRun)(k:Int):ctRun (mkRun a k)=ctRun a:=by simp only[ctRun,mkRun,mkInst_ct,mkMem_ct]
theorem mkRun_idem(a:DRun)(k:Int):mkRun (mkRun a k) k=mkRun a k:=by simp only[mkRun,mkInst_ct,mkInst_idem,mkMem_ct,mkMem_idem]
theorem bd_eVal{x:DVal}(h:BdDV (dA .eVal x)):x.S.size≤9223372036854775807:=Bd.str (U:=UU) (h _ (List.mem_cons_of_mem _ (List.mem_cons_of_mem _ (List.mem_cons_self))))
theorem bd_lVal{x:DVal}(h:BdDV (dA .lVal x)):x.S.size≤9223372036854775807:=Bd.str (U:=UU) (h _ (List.mem_cons_of_mem _ (List.mem_cons_of_mem _ (List.mem_cons_self))))
theorem bd_eFact{x:DFact}(h:BdDV (dA .eFact x)):x.Kind.size≤9223372036854775807∧x.Fields.length≤9223372036854775807:=⟨Bd.str (U:=UU) (h _ (List.mem_cons_self)),Bd.len (U:=UU) (h _ (List.mem_cons_of_mem _ (List.mem_cons_self)))⟩
theorem bd_eItem{x:DItem}(h:BdDV (dA .eItem x)):x.F.Kind.size≤9223372036854775807∧x.F.Fields.length≤9223372036854775807:=⟨Bd.str (U:=UU) (h _ (List.mem_cons_of_mem _ (List.mem_cons_self))),Bd.len (U:=UU) (h _ (List.mem_cons_of_mem _ (List.mem_cons_of_mem _ (List.mem_cons_self))))⟩
theorem bd_eStore{x:DStore}(h:BdDV (dA .eStore x)):x.Items.length≤9223372036854775807:=Bd.len (U:=UU) (h _ (List.mem_cons_self))
theorem bd_eArg{x:DArg}(h:BdDV (dA .eArg x)):x.S.size≤9223372036854775807∧x.V.S.size≤9223372036854775807:=⟨Bd.str (U:=UU) (h _ (List.mem_cons_of_mem _ (List.mem_cons_self))),Bd.str (U:=UU) (h _ (List.mem_cons_of_mem _ (List.mem_cons_of_mem _ (List.mem_cons_of_mem _ (List.mem_cons_of_mem _ (List.mem_cons_self))))))⟩
theorem bd_lArg{x:DArg}(h:BdDV (dA .lArg x)):x.S.size≤9223372036854775807∧x.V.S.size≤9223372036854775807:=⟨Bd.str (U:=UU) (h _ (List.mem_cons_of_mem _ (List.mem_cons_self))),Bd.str (U:=UU) (h _ (List.mem_cons_of_mem _ (List.mem_cons_of_mem _ (List.mem_cons_of_mem _ (List.mem_cons_of_mem _ (List.mem_cons_self))))))⟩
theorem bd_ePat{x:DPat}(h:BdDV (dA .ePat x)):x.Kind.size≤9223372036854775807∧x.Args.length≤9223372036854775807:=⟨Bd.str (U:=UU) (h _ (List.mem_cons_self)),Bd.len (U:=UU) (h _ (List.mem_cons_of_mem _ (List.mem_cons_self)))⟩
theorem bd_lPat{x:DPat}(h:BdDV (dA .lPat x)):x.Kind.size≤9223372036854775807∧x.Args.length≤9223372036854775807:=⟨Bd.str (U:=UU) (h _ (List.mem_cons_self)),Bd.len (U:=UU) (h _ (List.mem_cons_of_mem _ (List.mem_cons_self)))⟩
theorem bd_eBind{x:DBind}(h:BdDV (dA .eBind x)):x.Name.size≤9223372036854775807∧x.V.S.size≤9223372036854775807:=⟨Bd.str (U:=UU) (h _ (List.mem_cons_self)),Bd.str (U:=UU) (h _ (List.mem_cons_of_mem _ (List.mem_cons_of_mem _ (List.mem_cons_of_mem _ (List.mem_cons_self)))))⟩
theorem bd_eCond{x:DCond}(h:BdDV (dA .eCond x)):x.L.S.size≤9223372036854775807∧x.L.V.S.size≤9223372036854775807∧x.R.S.size≤9223372036854775807∧x.R.V.S.size≤9223372036854775807:=⟨Bd.str (U:=UU) (h _ (List.mem_cons_of_mem _ (List.mem_cons_of_mem _ (List.mem_cons_self)))),Bd.str (U:=UU) (h _ (List.mem_cons_of_mem _ (List.mem_cons_of_mem _ (List.mem_cons_of_mem _ (List.mem_cons_of_mem _ (List.mem_cons_of_mem _ (List.mem_cons_self))))))),Bd.str (U:=UU) (h _ (List.mem_cons_of_mem _ (List.mem_cons_of_mem _ (List.mem_cons_of_mem _ (List.mem_cons_of_mem _ (List.mem_cons_of_mem _ (List.mem_cons_of_mem _ (List.mem_cons_of_mem _ (List.mem_cons_self))))))))),Bd.str (U:=UU) (h _ (List.mem_cons_of_mem _ (List.mem_cons_of_mem _ (List.mem_cons_of_mem _ (List.mem_cons_of_mem _ (List.mem_cons_of_mem _ (List.mem_cons_of_mem _ (List.mem_cons_of_mem _ (List.mem_cons_of_mem _ (List.mem_cons_of_mem _ (List.mem_cons_of_mem _ (List.mem_cons_self))))))))))))⟩
theorem bd_lCond{x:DCond}(h:BdDV (dA .lCond x)):x.L.S.size≤9223372036854775807∧x.L.V.S.size≤9223372036854775807∧x.R.S.size≤9223372036854775807∧x.R.V.S.size≤9223372036854775807:=⟨Bd.str (U:=UU) (h _ (List.mem_cons_of_mem _ (List.mem_cons_of_mem _ (List.mem_cons_self)))),Bd.str (U:=UU) (h _ (List.mem_cons_of_mem _ (List.mem_cons_of_mem _ (List.mem_cons_of_mem _ (List.mem_cons_of_mem _ (List.mem_cons_of_mem _ (List.mem_cons_self))))))),Bd.str (U:=UU) (h _ (List.mem_cons_of_mem _ (List.mem_cons_of_mem _ (List.mem_cons_of_mem _ (List.mem_cons_of_mem _ (List.mem_cons_of_mem _ (List.mem_cons_of_mem _ (List.mem_cons_of_mem _ (List.mem_cons_self))))))))),Bd.str (U:=UU) (h _ (List.mem_cons_of_mem _ (List.mem_cons_of_mem _ (List.mem_cons_of_mem _ (List.mem_cons_of_mem _ (List.mem_cons_of_mem _ (List.mem_cons_of_mem _ (List.mem_cons_of_mem _ (List.mem_cons_of_mem _ (List.mem_cons_of_mem _ (List.mem_cons_of_mem _ (List.mem_cons_self))))))))))))⟩
theorem bd_eExpr{x:DExpr}(h:BdDV (dA .eExpr x)):x.Op.size≤9223372036854775807∧x.L.S.size≤9223372036854775807∧x.L.V.S.size≤9223372036854775807∧x.R.S.size≤9223372036854775807∧x.R.V.S.size≤9223372036854775807:=⟨Bd.str (U:=UU) (h _ (List.mem_cons_self)),Bd.str (U:=UU) (h _ (List.mem_cons_of_mem _ (List.mem_cons_of_mem _ (List.mem_cons_self)))),Bd.str (U:=UU) (h _ (List.mem_cons_of_mem _ (List.mem_cons_of_mem _ (List.mem_cons_of_mem _ (List.mem_cons_of_mem _ (List.mem_cons_of_mem _ (List.mem_cons_self))))))),Bd.str (U:=UU) (h _ (List.mem_cons_of_mem _ (List.mem_cons_of_mem _ (List.mem_cons_of_mem _ (List.mem_cons_of_mem _ (List.mem_cons_of_mem _ (List.mem_cons_of_mem _ (List.mem_cons_of_mem _ (List.mem_cons_self))))))))),Bd.str (U:=UU) (h _ (List.mem_cons_of_mem _ (List.mem_cons_of_mem _ (List.mem_cons_of_mem _ (List.mem_cons_of_mem _ (List.mem_cons_of_mem _ (List.mem_cons_of_mem _ (List.mem_cons_of_mem _ (List.mem_cons_of_mem _ (List.mem_cons_of_mem _ (List.mem_cons_of_mem _ (List.mem_cons_self))))))))))))⟩
theorem bd_lExpr{x:DExpr}(h:BdDV (dA .lExpr x)):x.Op.size≤9223372036854775807∧x.L.S.size≤9223372036854775807∧x.L.V.S.size≤9223372036854775807∧x.R.S.size≤9223372036854775807∧x.R.V.S.size≤9223372036854775807:=⟨Bd.str (U:=UU) (h _ (List.mem_cons_self)),Bd.str (U:=UU) (h _ (List.mem_cons_of_mem _ (List.mem_cons_of_mem _ (List.mem_cons_self)))),Bd.str (U:=UU) (h _ (List.mem_cons_of_mem _ (List.mem_cons_of_mem _ (List.mem_cons_of_mem _ (List.mem_cons_of_mem _ (List.mem_cons_of_mem _ (List.mem_cons_self))))))),Bd.str (U:=UU) (h _ (List.mem_cons_of_mem _ (List.mem_cons_of_mem _ (List.mem_cons_of_mem _ (List.mem_cons_of_mem _ (List.mem_cons_of_mem _ (List.mem_cons_of_mem _ (List.mem_cons_of_mem _ (List.mem_cons_self))))))))),Bd.str (U:=UU) (h _ (List.mem_cons_of_mem _ (List.mem_cons_of_mem _ (List.mem_cons_of_mem _ (List.mem_cons_of_mem _ (List.mem_cons_of_mem _ (List.mem_cons_of_mem _ (List.mem_cons_of_mem _ (List.mem_cons_of_mem _ (List.mem_cons_of_mem _ (List.mem_cons_of_mem _ (List.mem_cons_self))))))))))))⟩
theorem bd_eAct{x:DAct}(h:BdDV (dA .eAct x)):x.Name.size≤9223372036854775807∧x.Args.length≤9223372036854775807∧x.Undo.size≤9223372036854775807:=⟨Bd.str (U:=UU) (h _ (List.mem_cons_of_mem _ (List.mem_cons_self))),Bd.len (U:=UU) (h _ (List.mem_cons_of_mem _ (List.mem_cons_of_mem _ (List.mem_cons_self)))),Bd.str (U:=UU) (h _ (List.mem_cons_of_mem _ (List.mem_cons_of_mem _ (List.mem_cons_of_mem _ (List.mem_cons_of_mem _ (List.mem_cons_self))))))⟩
theorem bd_lAct{x:DAct}(h:BdDV (dA .lAct x)):x.Name.size≤9223372036854775807∧x.Args.length≤9223372036854775807∧x.Undo.size≤9223372036854775807:=⟨Bd.str (U:=UU) (h _ (List.mem_cons_of_mem _ (List.mem_cons_self))),Bd.len (U:=UU) (h _ (List.mem_cons_of_mem _ (List.mem_cons_of_mem _ (List.mem_cons_self)))),Bd.str (U:=UU) (h _ (List.mem_cons_of_mem _ (List.mem_cons_of_mem _ (List.mem_cons_of_mem _ (List.mem_cons_of_mem _ (List.mem_cons_self))))))⟩
theorem bd_eRule{x:DRule}(h:BdDV (dA .eRule x)):x.Name.size≤9223372036854775807∧x.Pats.length≤9223372036854775807∧x.Conds.length≤9223372036854775807∧x.Acts.length≤9223372036854775807:=⟨Bd.str (U:=UU) (h _ (List.mem_cons_self)),Bd.len (U:=UU) (h _ (List.mem_cons_of_mem _ (List.mem_cons_of_mem _ (List.mem_cons_self)))),Bd.len (U:=UU) (h _ (List.mem_cons_of_mem _ (List.mem_cons_of_mem _ (List.mem_cons_of_mem _ (List.mem_cons_self))))),Bd.len (U:=UU) (h _ (List.mem_cons_of_mem _ (List.mem_cons_of_mem _ (List.mem_cons_of_mem _ (List.mem_cons_of_mem _ (List.mem_cons_self))))))⟩
theorem bd_lRule{x:DRule}(h:BdDV (dA .lRule x)):x.Name.size≤9223372036854775807∧x.Pats.length≤9223372036854775807∧x.Conds.length≤9223372036854775807∧x.Acts.length≤9223372036854775807:=⟨Bd.str (U:=UU) (h _ (List.mem_cons_self)),Bd.len (U:=UU) (h _ (List.mem_cons_of_mem _ (List.mem_cons_of_mem _ (List.mem_cons_self)))),Bd.len (U:=UU) (h _ (List.mem_cons_of_mem _ (List.mem_cons_of_mem _ (List.mem_cons_of_mem _ (List.mem_cons_self))))),Bd.len (U:=UU) (h _ (List.mem_cons_of_mem _ (List.mem_cons_of_mem _ (List.mem_cons_of_mem _ (List.mem_cons_of_mem _ (List.mem_cons_self))))))⟩
theorem bd_eDef{x:DDef}(h:BdDV (dA .eDef x)):x.Name.size≤9223372036854775807∧x.Rules.length≤9223372036854775807:=⟨Bd.str (U:=UU) (h _ (List.mem_cons_self)),Bd.len (U:=UU) (h _ (List.mem_cons_of_mem _ (List.mem_cons_self)))⟩
theorem bd_lDef{x:DDef}(h:BdDV (dA .lDef x)):x.Name.size≤9223372036854775807∧x.Rules.length≤9223372036854775807:=⟨Bd.str (U:=UU) (h _ (List.mem_cons_self)),Bd.len (U:=UU) (h _ (List.mem_cons_of_mem _ (List.mem_cons_self)))⟩
theorem bd_eMatch{x:DMatch}(h:BdDV (dA .eMatch x)):x.Ids.length≤9223372036854775807∧x.Binds.length≤9223372036854775807:=⟨Bd.len (U:=UU) (h _ (List.mem_cons_of_mem _ (List.mem_cons_self))),Bd.len (U:=UU) (h _ (List.mem_cons_of_mem _ (List.mem_cons_of_mem _ (List.mem_cons_self))))⟩
theorem bd_eAlpha{x:DAlpha}(h:BdDV (dA .eAlpha x)):x.Kind.size≤9223372036854775807∧x.Consts.length≤9223372036854775807∧x.At.length≤9223372036854775807:=⟨Bd.str (U:=UU) (h _ (List.mem_cons_self)),Bd.len (U:=UU) (h _ (List.mem_cons_of_mem _ (List.mem_cons_of_mem _ (List.mem_cons_self)))),Bd.len (U:=UU) (h _ (List.mem_cons_of_mem _ (List.mem_cons_of_mem _ (List.mem_cons_of_mem _ (List.mem_cons_self)))))⟩
theorem bd_eNet{x:DNet}(h:BdDV (dA .eNet x)):x.Alphas.length≤9223372036854775807∧x.Chains.length≤9223372036854775807:=⟨Bd.len (U:=UU) (h _ (List.mem_cons_self)),Bd.len (U:=UU) (h _ (List.mem_cons_of_mem _ (List.mem_cons_self)))⟩
theorem bdX_eNet{x:DNet}(h:BdDV (dX .eNet x)):x.Alphas.length≤9223372036854775807∧x.Chains.length≤9223372036854775807:=⟨Bd.len (U:=UU) (h _ (List.mem_cons_self)),Bd.len (U:=UU) (h _ (List.mem_cons_of_mem _ (List.mem_cons_self)))⟩
theorem bd_eIds{x:DIds}(h:BdDV (dA .eIds x)):x.L.length≤9223372036854775807:=Bd.len (U:=UU) (h _ (List.mem_cons_self))
theorem bd_eTok{x:DTok}(h:BdDV (dA .eTok x)):x.Ids.length≤9223372036854775807∧x.Hits.length≤9223372036854775807:=⟨Bd.len (U:=UU) (h _ (List.mem_cons_self)),Bd.len (U:=UU) (h _ (List.mem_cons_of_mem _ (List.mem_cons_self)))⟩
theorem bd_eLevel{x:DLevel}(h:BdDV (dA .eLevel x)):x.Toks.length≤9223372036854775807:=Bd.len (U:=UU) (h _ (List.mem_cons_self))
theorem bd_eRow{x:DRow}(h:BdDV (dA .eRow x)):x.Levels.length≤9223372036854775807:=Bd.len (U:=UU) (h _ (List.mem_cons_self))
theorem bd_eMem{x:DMem}(h:BdDV (dA .eMem x)):x.Alphas.length≤9223372036854775807∧x.Rules.length≤9223372036854775807:=⟨Bd.len (U:=UU) (h _ (List.mem_cons_self)),Bd.len (U:=UU) (h _ (List.mem_cons_of_mem _ (List.mem_cons_self)))⟩
theorem bd_eTimer{x:DTimer}(h:BdDV (dA .eTimer x)):x.F.Kind.size≤9223372036854775807∧x.F.Fields.length≤9223372036854775807:=⟨Bd.str (U:=UU) (h _ (List.mem_cons_of_mem _ (List.mem_cons_self))),Bd.len (U:=UU) (h _ (List.mem_cons_of_mem _ (List.mem_cons_of_mem _ (List.mem_cons_self))))⟩
theorem bd_eTask{x:DTask}(h:BdDV (dA .eTask x)):x.F.Kind.size≤9223372036854775807∧x.F.Fields.length≤9223372036854775807∧x.Undo.size≤9223372036854775807∧x.V.S.size≤9223372036854775807:=⟨Bd.str (U:=UU) (h _ (List.mem_cons_self)),Bd.len (U:=UU) (h _ (List.mem_cons_of_mem _ (List.mem_cons_self))),Bd.str (U:=UU) (h _ (List.mem_cons_of_mem _ (List.mem_cons_of_mem _ (List.mem_cons_self)))),Bd.str (U:=UU) (h _ (List.mem_cons_of_mem _ (List.mem_cons_of_mem _ (List.mem_cons_of_mem _ (List.mem_cons_of_mem _ (List.mem_cons_of_mem _ (List.mem_cons_of_mem _ (List.mem_cons_of_mem _ (List.mem_cons_of_mem _ (List.mem_cons_self))))))))))⟩
theorem bd_eUndo{x:DUndo}(h:BdDV (dA .eUndo x)):x.Key.size≤9223372036854775807∧x.F.Kind.size≤9223372036854775807∧x.F.Fields.length≤9223372036854775807:=⟨Bd.str (U:=UU) (h _ (List.mem_cons_self)),Bd.str (U:=UU) (h _ (List.mem_cons_of_mem _ (List.mem_cons_self))),Bd.len (U:=UU) (h _ (List.mem_cons_of_mem _ (List.mem_cons_of_mem _ (List.mem_cons_self))))⟩
theorem bd_eInst{x:DInst}(h:BdDV (dA .eInst x)):x.S.Items.length≤9223372036854775807∧x.Fired.length≤9223372036854775807∧x.Tasks.length≤9223372036854775807∧x.Timers.length≤9223372036854775807∧x.Undos.length≤9223372036854775807:=⟨Bd.len (U:=UU) (h _ (List.mem_cons_self)),Bd.len (U:=UU) (h _ (List.mem_cons_of_mem _ (List.mem_cons_of_mem _ (List.mem_cons_self)))),Bd.len (U:=UU) (h _ (List.mem_cons_of_mem _ (List.mem_cons_of_mem _ (List.mem_cons_of_mem _ (List.mem_cons_self))))),Bd.len (U:=UU) (h _ (List.mem_cons_of_mem _ (List.mem_cons_of_mem _ (List.mem_cons_of_mem _ (List.mem_cons_of_mem _ (List.mem_cons_self)))))),Bd.len (U:=UU) (h _ (List.mem_cons_of_mem _ (List.mem_cons_of_mem _ (List.mem_cons_of_mem _ (List.mem_cons_of_mem _ (List.mem_cons_of_mem _ (List.mem_cons_self)))))))⟩
theorem bd_eRun{x:DRun}(h:BdDV (dA .eRun x)):x.X.S.Items.length≤9223372036854775807∧x.X.Fired.length≤9223372036854775807∧x.X.Tasks.length≤9223372036854775807∧x.X.Timers.length≤9223372036854775807∧x.X.Undos.length≤9223372036854775807∧x.M.Alphas.length≤9223372036854775807∧x.M.Rules.length≤9223372036854775807:=⟨Bd.len (U:=UU) (h _ (List.mem_cons_self)),Bd.len (U:=UU) (h _ (List.mem_cons_of_mem _ (List.mem_cons_of_mem _ (List.mem_cons_self)))),Bd.len (U:=UU) (h _ (List.mem_cons_of_mem _ (List.mem_cons_of_mem _ (List.mem_cons_of_mem _ (List.mem_cons_self))))),Bd.len (U:=UU) (h _ (List.mem_cons_of_mem _ (List.mem_cons_of_mem _ (List.mem_cons_of_mem _ (List.mem_cons_of_mem _ (List.mem_cons_self)))))),Bd.len (U:=UU) (h _ (List.mem_cons_of_mem _ (List.mem_cons_of_mem _ (List.mem_cons_of_mem _ (List.mem_cons_of_mem _ (List.mem_cons_of_mem _ (List.mem_cons_self))))))),Bd.len (U:=UU) (h _ (List.mem_cons_of_mem _ (List.mem_cons_of_mem _ (List.mem_cons_of_mem _ (List.mem_cons_of_mem _ (List.mem_cons_of_mem _ (List.mem_cons_of_mem _ (List.mem_cons_of_mem _ (List.mem_cons_of_mem _ (List.mem_cons_self)))))))))),Bd.len (U:=UU) (h _ (List.mem_cons_of_mem _ (List.mem_cons_of_mem _ (List.mem_cons_of_mem _ (List.mem_cons_of_mem _ (List.mem_cons_of_mem _ (List.mem_cons_of_mem _ (List.mem_cons_of_mem _ (List.mem_cons_of_mem _ (List.mem_cons_of_mem _ (List.mem_cons_self)))))))))))⟩
def rM1{α:Type}(a:List α):Int×Unit→Nat:=fun y=>a.length-y.1.toNat
def rM2{α β:Type}(a:List α):β×Int×Unit→Nat:=fun y=>a.length-y.2.1.toNat
def szI{α:Type}(f:α→Nat)(a:List α)(S:Nat)(left:Int):Int×Int×Unit→Prop:=fun y=>0≤y.1∧0≤y.2.1∧y.2.1≤a.length∧szr y.1 ((a.drop y.2.1.toNat).map f).sum=szr left S
def szV{α:Type}(f:α→Nat)(z:α)(a:List α)(S:Nat)(left:Int):Prop:=
 bif decide (IntKind.wrap .i64 (left-(a.length:Int))<0) then Li (-1) (szr left S)
 else szI f a S left (IntKind.wrap .i64 (left-(a.length:Int)),0,())∧∀y:Int×Int×PUnit,szI f a S left y→
  bif decide (y.2.1<(a.length:Int)) then 0≤y.2.1∧y.2.1.toNat<a.length∧0≤y.1∧
   bif decide (szr y.1 (f (a.getD y.2.1.toNat z))<0) then Li (-1) (szr left S)
   else szI f a S left (szr y.1 (f (a.getD y.2.1.toNat z)),IntKind.wrap .i64 (y.2.1+1),())∧rM2 a (szr y.1 (f (a.getD y.2.1.toNat z)),IntKind.wrap .i64 (y.2.1+1),())<rM2 a y
  else Li y.1 (szr left S)
theorem szV_ok{α:Type}{f:α→Nat}{z:α}{a:List α}{S:Nat}{left:Int}(hS:S=a.length+(a.map f).sum)(hp0:0≤left)(hl: -9223372036854775808≤left∧left≤9223372036854775807)(hla:a.length≤9223372036854775807):szV f z a S left:=by
 subst hS
 unfold szV
 rw[wrap_i64 (by omega) (by omega)]
 refine if_cond (fun h=>Lf_i ?_) (fun h=>⟨?_,?_⟩)
 ·simp[szr] at*;omega
 ·simp at h
  have h':0≤left-a.length:=by omega
  exact⟨h',by show(0:Int)≤0;omega,by show(0:Int)≤a.length;omega,szr_sub h'⟩
 rintro⟨lf,i,⟨⟩⟩ ⟨h0,h1,h2,hR⟩
 refine if_cond (fun hc=> ?_) (fun hc=> ?_)
 ·have hc:i<a.length:=by simpa using hc
  simp only at h0 h1 h2 hR⊢
  rw[drop_step a z h1 hc,List.map_cons,List.sum_cons] at hR
  rw[wrap_i64 (by omega) (by omega)]
  generalize List.getD a i.toNat z=x at*
  refine⟨by omega,by omega,by omega,if_cond (fun h=>Lf_i ?_) (fun h=>⟨⟨?_,by show(0:Int)≤i+1;omega,by show i+1≤a.length;omega,?_⟩,?_⟩)⟩
  ·rw[←hR];exact(szr_bad (of_decide_eq_true h)).symm
  ·simp at h;exact h
  ·show szr (szr lf (f x)) _=_
   rw[←hR];simp at h;exact szr_szr h
  ·simp only[rM2];omega
 ·have hc:a.length≤i:=by simpa using hc
  simp only at h0 h1 h2 hR⊢
  rw[drop_end a hc] at hR
  apply Lf_i;rw[←hR];simp[szr,h0]
def toI{α:Type}(z:α)(a:List α):List α×Int×Unit→Prop:=fun y=>0≤y.2.1∧y.2.1≤a.length∧y.1=a.take y.2.1.toNat++List.replicate (a.length-y.2.1.toNat) z
def toV{α:Type}(f:α→Nat)(z:α)(a:List α)(L:List α→Prop):Prop:=
 0≤(a.length:Int)∧(a.length:Int)=(a.length:Int)∧(a.length:Int)≤4294967296∧toI z a (List.replicate (a.length:Int).toNat z,0,())∧
  ∀y:List α×Int×PUnit,toI z a y→bif decide (y.2.1<(a.length:Int)) then 0≤y.2.1∧y.2.1.toNat<a.length∧f (a.getD y.2.1.toNat z)≤4294967296∧0≤y.2.1∧y.2.1.toNat<y.1.length∧y.2.1.toNat<y.1.length∧
   toI z a (y.1.set y.2.1.toNat (a.getD y.2.1.toNat z),IntKind.wrap .i64 (y.2.1+1),())∧rM2 a (y.1.set y.2.1.toNat (a.getD y.2.1.toNat z),IntKind.wrap .i64 (y.2.1+1),())<rM2 a y
  else L y.1
theorem toV_ok{α:Type}{f:α→Nat}{z:α}{a:List α}{L:List α→Prop}(hp0:a.length+(a.map f).sum≤4294967296)(hL:L a):toV f z a L:=by
 refine⟨by omega,rfl,by omega,⟨by show(0:Int)≤0;omega,by show(0:Int)≤a.length;omega,by simp⟩,?_⟩
 rintro⟨out,i,⟨⟩⟩ ⟨h1,h2,h3⟩
 simp only at h1 h2 h3
 subst h3
 refine if_cond (fun hc=> ?_) (fun hc=> ?_)
 ·have hc:i<a.length:=by simpa using hc
  simp only
  rw[wrap_i64 (by omega) (by omega),set_fill a z h1 hc]
  exact⟨h1,by omega,Nat.le_trans (sum_getD_le f a z h1 hc) (by omega),h1,by simp;omega,by simp;omega,⟨by show(0:Int)≤i+1;omega,by show i+1≤a.length;omega,rfl⟩,by simp only[rM2];omega⟩
 ·have hc:a.length≤i:=by simpa using hc
  have e:i.toNat=a.length:=by omega
  simp only
  rw[e];simpa using hL
def eqI{α:Type}(a b:List α):Int×Unit→Prop:=fun y=>0≤y.1∧y.1≤a.length∧a.length=b.length∧(a.drop y.1.toNat=b.drop y.1.toNat↔a=b)
noncomputable def eqV{α:Type}[DecidableEq α](z:α)(a b:List α):Prop:=
 bif (a.length:Int) !=(b.length:Int) then Lb false (decide (a=b))
 else eqI a b (0,())∧∀y:Int×PUnit,eqI a b y→bif decide (y.1<(a.length:Int)) then 0≤y.1∧y.1.toNat<a.length∧0≤y.1∧y.1.toNat<b.length∧
   bif !decide (a.getD y.1.toNat z=b.getD y.1.toNat z) then Lb false (decide (a=b))
   else eqI a b (IntKind.wrap .i64 (y.1+1),())∧rM1 a (IntKind.wrap .i64 (y.1+1),())<rM1 a y
  else Lb true (decide (a=b))
theorem eqV_ok{α:Type}[DecidableEq α]{z:α}{a b:List α}(hl:a.length≤9223372036854775807):eqV z a b:=by
 unfold eqV
 refine if_cond (fun h=>Lf_f ?_) (fun h=>⟨?_,?_⟩)
 ·rintro rfl;simp at h
 ·have h:(a.length:Int)=b.length:=by simpa using h
  exact⟨by show(0:Int)≤0;omega,by show(0:Int)≤a.length;omega,by omega,by simp⟩
 rintro⟨i,⟨⟩⟩ ⟨h1,h2,h3,hR⟩
 simp only at h1 h2 h3 hR
 refine if_cond (fun hc=> ?_) (fun hc=> ?_)
 ·have hc:i<a.length:=by simpa using hc
  rw[drop_step a z h1 hc,drop_step b z h1 (by omega)] at hR
  simp only
  rw[wrap_i64 (by omega) (by omega)]
  refine⟨by omega,by omega,by omega,by omega,if_cond (fun h=>Lf_f ?_) (fun h=>⟨⟨by show(0:Int)≤i+1;omega,by show i+1≤a.length;omega,h3,?_⟩,?_⟩)⟩
  ·rw[←hR];simp at h;simp[h]
  ·show a.drop (i+1).toNat=b.drop (i+1).toNat↔a=b
   rw[←hR];simp at h;simp[h]
  ·simp only[rM1];omega
 ·have hc:a.length≤i:=by simpa using hc
  rw[drop_end a hc,drop_end b (by omega)] at hR
  exact Lf_t (hR.1 rfl)
def smallB(b:Int):Bool:=decide (97≤b∧b≤122)
def wordB(b:Int):Bool:=smallB b||decide (48≤b∧b≤57)||decide (b=95)
def wordS(s:ByteArray):Bool:=(bs s).all (byteP wordB)
def nameOk(s:ByteArray):Bool:=decide (1≤s.size∧s.size≤12)&&smallB (List.getD (bs s) 0 0).toNat&&wordS s
def valOk(v:DVal):Bool:=bif decide (v.K=1) then decide (-1000000000≤v.N∧v.N≤1000000000)&&decide (v.S=noBytes) else bif decide (v.K=2) then decide (v.N=0)&&decide (v.S.size≤20)&&wordS v.S else false
def Zk74:Con UU where
 α:=Int×Int×Int
 md:=[.ro,.ro,.ro]
 of:=oC oI (oC oI (o1 oI))
 ds:=fun x=>[dI x.1,dI x.2.1,dI x.2.2]
 pre:=fun _=>[]
 res:=fun(n,least,most)=>⟨[.one (.lit (.bool (decide (least≤n∧n≤most))))],true,[]⟩
 law:=lC lI (lC lI (l1 lI))
def Za74:Zk74.α→Nat→Option (Ann UU):=fun(n,least,most)=>annL []
def Zu74:List (FuncId×Con UU):=[]
theorem Zv74(n:Int)(least:Int)(most:Int):goal EE Zu74 Go.Proofs.Tryz.f74 Zk74 Za74 (n,least,most)=(bif decide (n≥least) then Lb (decide (n≤most)) (decide (least≤n∧n≤most)) else Lb false (decide (least≤n∧n≤most))):=by kernel_rfl
theorem Zo74:Holds EE (74,Zk74):=by
 refine holds_of EE_ok Go.Proofs.Tryz.func74 Zk74 (by kernel_rfl) Zu74 all_nil Za74 (fun x hp hb=> ?_)
 obtain⟨n,least,most⟩:=x
 have hl_n:=bdI (n:=n) (hb _ m0)
 have hl_least:=bdI (n:=least) (hb _ m1)
 have hl_most:=bdI (n:=most) (hb _ m2)
 clear hp hb
 rw[Zv74 n least most]
 refine if_cond (fun h=>Lf_b ?_) (fun h=>Lf_b ?_)<;>grind
def Zh74:HH:=⟨_,Zo74⟩
def Zk30:Con UU where
 α:=Int×Int×Int
 md:=[.ro,.ro,.ro]
 of:=oC oI (oC oI (o1 oI))
 ds:=fun x=>[dI x.1,dI x.2.1,dI x.2.2]
 pre:=fun _=>[]
 res:=fun(x,least,most)=>⟨[.one (.lit (.bool (decide (least≤x∧x≤most))))],true,[]⟩
 law:=lC lI (lC lI (l1 lI))
def Za30:Zk30.α→Nat→Option (Ann UU):=fun(x,least,most)=>annL []
def Zu30:List (FuncId×Con UU):=[]
theorem Zv30(x:Int)(least:Int)(most:Int):goal EE Zu30 Go.Proofs.Tryz.f30 Zk30 Za30 (x,least,most)=(bif decide (x≥least) then Lb (decide (x≤most)) (decide (least≤x∧x≤most)) else Lb false (decide (least≤x∧x≤most))):=by kernel_rfl
theorem Zo30:Holds EE (30,Zk30):=by
 refine holds_of EE_ok Go.Proofs.Tryz.func30 Zk30 (by kernel_rfl) Zu30 all_nil Za30 (fun x hp hb=> ?_)
 obtain⟨x,least,most⟩:=x
 have hl_x:=bdI (n:=x) (hb _ m0)
 have hl_least:=bdI (n:=least) (hb _ m1)
 have hl_most:=bdI (n:=most) (hb _ m2)
 clear hp hb
 rw[Zv30 x least most]
 refine if_cond (fun h=>Lf_b ?_) (fun h=>Lf_b ?_)<;>grind
def Zh30:HH:=⟨_,Zo30⟩
def Zk114:Con UU where
 α:=Int
 md:=[.ro]
 of:=o1 oY
 ds:=fun x=>[dY x]
 pre:=fun _=>[]
 res:=fun b=>⟨[.one (.lit (.bool (smallB b)))],true,[]⟩
 law:=l1 lY
def Za114:Zk114.α→Nat→Option (Ann UU):=fun b=>annL []
def Zu114:List (FuncId×Con UU):=[]
theorem Zv114(b:Int):goal EE Zu114 Go.Proofs.Tryz.f114 Zk114 Za114 b=(bif decide (b≥(97:Int)) then Lb (decide (b≤(122:Int))) (smallB b) else Lb false (smallB b)):=by kernel_rfl
theorem Zo114:Holds EE (114,Zk114):=by
 refine holds_of EE_ok Go.Proofs.Tryz.func114 Zk114 (by kernel_rfl) Zu114 all_nil Za114 (fun(b:Int) hp hb=> ?_)
 skip
 clear hp hb
 rw[Zv114 b]
 refine if_cond (fun h=>Lf_b ?_) (fun h=>Lf_b ?_)<;>grind [smallB]
def Zh114:HH:=⟨_,Zo114⟩
def Zk173:Con UU where
 α:=Int
 md:=[.ro]
 of:=o1 oY
 ds:=fun x=>[dY x]
 pre:=fun _=>[]
 res:=fun b=>⟨[.one (.lit (.bool (decide (48≤b∧b≤57))))],true,[]⟩
 law:=l1 lY
def Za173:Zk173.α→Nat→Option (Ann UU):=fun b=>annL []
def Zu173:List (FuncId×Con UU):=[]
theorem Zv173(b:Int):goal EE Zu173 Go.Proofs.Tryz.f173 Zk173 Za173 b=(bif decide (b≥(48:Int)) then Lb (decide (b≤(57:Int))) (decide ((48:Int)≤b∧b≤(57:Int))) else Lb false (decide ((48:Int)≤b∧b≤(57:Int)))):=by kernel_rfl
theorem Zo173:Holds EE (173,Zk173):=by
 refine holds_of EE_ok Go.Proofs.Tryz.func173 Zk173 (by kernel_rfl) Zu173 all_nil Za173 (fun(b:Int) hp hb=> ?_)
 skip
 clear hp hb
 rw[Zv173 b]
 refine if_cond (fun h=>Lf_b ?_) (fun h=>Lf_b ?_)<;>grind
def Zh173:HH:=⟨_,Zo173⟩
def Zk152:Con UU where
 α:=Int
 md:=[.ro]
 of:=o1 oY
 ds:=fun x=>[dY x]
 pre:=fun _=>[]
 res:=fun b=>⟨[.one (.lit (.bool (wordB b)))],true,[]⟩
 law:=l1 lY
def Za152:Zk152.α→Nat→Option (Ann UU):=fun b=>annL []
def Zu152:=us [Zh114,Zh173]
theorem Zv152(b:Int):goal EE Zu152 Go.Proofs.Tryz.f152 Zk152 Za152 b=(bif smallB b then Lb true (wordB b) else bif decide ((48:Int)≤b∧b≤(57:Int)) then Lb true (wordB b) else Lb (b==(95:Int)) (wordB b)):=by kernel_rfl
theorem Zo152:Holds EE (152,Zk152):=by
 refine holds_of EE_ok Go.Proofs.Tryz.func152 Zk152 (by kernel_rfl) Zu152 (us_ok _) Za152 (fun(b:Int) hp hb=> ?_)
 skip
 clear hp hb
 rw[Zv152 b]
 refine if_cond (fun h=>Lf_b ?_) (fun h=> ?_)
 ·grind [wordB]
 refine if_cond (fun h=>Lf_b ?_) (fun h=>Lf_b ?_)<;>grind [wordB]
def Zh152:HH:=⟨_,Zo152⟩
def Zk109:Con UU where
 α:=Int
 md:=[.ro]
 of:=o1 oY
 ds:=fun x=>[dY x]
 pre:=fun c=>[0≤c∧c≤255]
 res:=fun c=>⟨[.one (.lit (.bool (wordB c)))],true,[]⟩
 law:=l1 lY
def Za109:Zk109.α→Nat→Option (Ann UU):=fun c=>annL []
def Zu109:=us [Zh30]
theorem Zv109(c:Int):goal EE Zu109 Go.Proofs.Tryz.f109 Zk109 Za109 c=(bif decide ((97:Int)≤IntKind.wrap IntKind.i64 c∧IntKind.wrap IntKind.i64 c≤(122:Int)) then Lb true (wordB c) else bif decide ((48:Int)≤IntKind.wrap IntKind.i64 c∧IntKind.wrap IntKind.i64 c≤(57:Int)) then Lb true (wordB c) else Lb (c==(95:Int)) (wordB c)):=by kernel_rfl
theorem Zo109:Holds EE (109,Zk109):=by
 refine holds_of EE_ok Go.Proofs.Tryz.func109 Zk109 (by kernel_rfl) Zu109 (us_ok _) Za109 (fun(c:Int) hp hb=> ?_)
 have hp0:0≤c∧c≤255:=hp _ m0
 clear hp hb
 rw[Zv109 c]
 rw[wrap_i64 (by omega) (by omega)]
 refine if_cond (fun h=>Lf_b ?_) (fun h=> ?_)
 ·grind [wordB,smallB]
 refine if_cond (fun h=>Lf_b ?_) (fun h=>Lf_b ?_)<;>grind [wordB,smallB]
def Zh109:HH:=⟨_,Zo109⟩
def Zk115:Con UU where
 α:=ByteArray×Int
 md:=[.ro,.ro]
 of:=oC oS (o1 oI)
 ds:=fun x=>[dS x.1,dI x.2]
 pre:=fun _=>[]
 res:=fun(s,most)=>⟨[.one (.lit (.bool (decide (s.size≤most)&&wordS s)))],true,[]⟩
 law:=lC lS (l1 lI)
def Zi115_4(s:ByteArray)(most:Int):Int×Unit→Prop:=fun(i,_)=>0≤i∧i≤s.size∧s.size≤most∧((bs s).drop i.toNat).all (byteP wordB)=wordS s
def Zm115_4(s:ByteArray)(most:Int):Int×Unit→Nat:=fun(i,_)=>s.size-i.toNat
def Za115:Zk115.α→Nat→Option (Ann UU):=fun(s,most)=>annL [(4,annOf [.slot 5 (5,1024) (.lit (.int .i64))] (fun _=>Zi115_4 s most) (Zm115_4 s most))]
def Zu115:=us [Zh152]
theorem Zv115(s:ByteArray)(most:Int):goal EE Zu115 Go.Proofs.Tryz.f115 Zk115 Za115 (s,most)=(bif decide ((↑(ByteArray.size s):Int)>most) then Lb false (decide ((↑(ByteArray.size s):Int)≤most)&&wordS s) else Zi115_4 s most ((0:Int),())∧∀(y:Int×PUnit),Zi115_4 s most y→bif decide (y.1<(↑(ByteArray.size s):Int)) then(0:Int)≤y.1∧y.1.toNat<ByteArray.size s∧bif !wordB (↑(UInt8.toNat (List.getD s.data.toList y.1.toNat (0:UInt8))):Int) then Lb false (decide ((↑(ByteArray.size s):Int)≤most)&&wordS s) else Zi115_4 s most (IntKind.wrap IntKind.i64 (y.1+(1:Int)),())∧Zm115_4 s most (IntKind.wrap IntKind.i64 (y.1+(1:Int)),())<Zm115_4 s most y else Lb true (decide ((↑(ByteArray.size s):Int)≤most)&&wordS s)):=by kernel_rfl
theorem Zo115:Holds EE (115,Zk115):=by
 refine holds_of EE_ok Go.Proofs.Tryz.func115 Zk115 (by kernel_rfl) Zu115 (us_ok _) Za115 (fun x hp hb=> ?_)
 obtain⟨s,most⟩:=x
 have hl_s:=bdS (s:=s) (hb _ m0)
 have hl_most:=bdI (n:=most) (hb _ m1)
 clear hp hb
 rw[Zv115 s most]
 refine if_cond (fun h=>Lf_ff ?_) (fun h=> ?_)
 ·have h:=of_decide_eq_true h;rw[decide_eq_false (by omega)];rfl
 have h0:=of_decide_eq_false h
 refine⟨⟨by omega,by omega,by omega,rfl⟩,?_⟩
 rintro⟨i,⟨⟩⟩ ⟨h1,h2,h3,hR⟩
 have hl:=bs_len s
 simp only[bs_eq]
 refine if_cond (fun hc=> ?_) (fun hc=> ?_)
 ·have hc:=of_decide_eq_true hc
  rw[all_step _ _ 0 h1 (by omega)] at hR
  rw[wrap_i64 (by omega) (by omega)]
  refine⟨by omega,by omega,if_cond (fun h=>Lf_ff ?_) (fun h=>⟨⟨by omega,by omega,by omega,?_⟩,?_⟩)⟩
  ·rw[←hR];simp only[byteP];simp at h;simp[h]
  ·rw[←hR];simp only[byteP];simp at h;simp[h]
  ·simp only[Zm115_4];omega
 ·have hc:=of_decide_eq_false hc
  rw[drop_end _ (by omega)] at hR
  exact Lf_tt (by rw[←hR,decide_eq_true h3];rfl)
def Zh115:HH:=⟨_,Zo115⟩
def Zk75:Con UU where
 α:=ByteArray
 md:=[.ro]
 of:=o1 oS
 ds:=fun x=>[dS x]
 pre:=fun _=>[]
 res:=fun s=>⟨[.one (.lit (.bool (nameOk s)))],true,[]⟩
 law:=l1 lS
def Za75:Zk75.α→Nat→Option (Ann UU):=fun s=>annL []
def Zu75:=us [Zh114,Zh115]
theorem Zv75(s:ByteArray):goal EE Zu75 Go.Proofs.Tryz.f75 Zk75 Za75 s=(bif decide ((↑(ByteArray.size s):Int)>(0:Int)) then(0:Int)≤(0:Int)∧Int.toNat (0:Int)<ByteArray.size s∧bif smallB (↑(UInt8.toNat (List.getD s.data.toList (Int.toNat (0:Int)) (0:UInt8))):Int) then Lb (decide ((↑(ByteArray.size s):Int)≤(12:Int))&&wordS s) (nameOk s) else Lb false (nameOk s) else Lb false (nameOk s)):=by kernel_rfl
theorem Zo75:Holds EE (75,Zk75):=by
 refine holds_of EE_ok Go.Proofs.Tryz.func75 Zk75 (by kernel_rfl) Zu75 (us_ok _) Za75 (fun(s:ByteArray) hp hb=> ?_)
 have hl_s:=bdS (s:=s) (hb _ m0)
 clear hp hb
 rw[Zv75 s]
 have hl:=bs_len s
 simp only[bs_eq]
 refine if_cond (fun h=> ?_) (fun h=>Lf_ff ?_)
 ·have h:=of_decide_eq_true h
  refine⟨by omega,by omega,if_cond (fun h'=>Lf_b ?_) (fun h'=>Lf_ff ?_)⟩
  ·have h':smallB ((List.getD (bs s) 0 0).toNat:Int)=true:=h'
   simp only[nameOk,h']
   have e:decide (1≤s.size∧s.size≤12)=decide ((s.size:Int)≤12):=by rw[decide_eq_decide];omega
   rw[e];simp
  ·have h':smallB ((List.getD (bs s) 0 0).toNat:Int)=false:=h'
   simp only[nameOk,h'];grind
 ·have h:=of_decide_eq_false h
  simp only[nameOk];rw[decide_eq_false (by omega)];rfl
def Zh75:HH:=⟨_,Zo75⟩
def Zk68:Con UU where
 α:=ByteArray
 md:=[.ro]
 of:=o1 oS
 ds:=fun x=>[dS x]
 pre:=fun _=>[]
 res:=fun s=>⟨[.one (.lit (.bool (nameOk s)))],true,[]⟩
 law:=l1 lS
def Zi68_2(s:ByteArray):Int×Unit→Prop:=fun(i,_)=>0≤i∧i≤s.size∧((bs s).drop i.toNat).all (byteP wordB)=wordS s∧(0<i→smallB (List.getD (bs s) 0 0).toNat=true)
def Zm68_2(s:ByteArray):Int×Unit→Nat:=fun(i,_)=>s.size-i.toNat
def Za68:Zk68.α→Nat→Option (Ann UU):=fun s=>annL [(2,annOf [.slot 3 (3,1024) (.lit (.int .i64))] (fun _=>Zi68_2 s) (Zm68_2 s))]
def Zu68:=us [Zh109,Zh30]
theorem Zv68(s:ByteArray):goal EE Zu68 Go.Proofs.Tryz.f68 Zk68 Za68 s=(Zi68_2 s ((0:Int),())∧
 ∀(y:Int×PUnit),
  let x0:Int:=(↑(UInt8.toNat (List.getD s.data.toList (Int.toNat y.1) (0:UInt8))):Int);
  Zi68_2 s y→bif decide (y.1<(↑(ByteArray.size s):Int)) then(0:Int)≤y.1∧Int.toNat y.1<ByteArray.size s∧((0:Int)≤x0∧x0≤(255:Int))∧bif !wordB x0 then Lf [DV.one (Cell.lit (Value.bool false))] [DV.one (Cell.lit (Value.bool (nameOk s)))] else bif y.1==(0:Int) then(0:Int)≤y.1∧Int.toNat y.1<ByteArray.size s∧bif !decide ((97:Int)≤IntKind.wrap IntKind.i64 x0∧IntKind.wrap IntKind.i64 x0≤(122:Int)) then Lf [DV.one (Cell.lit (Value.bool false))] [DV.one (Cell.lit (Value.bool (nameOk s)))] else Zi68_2 s (IntKind.wrap IntKind.i64 (y.1+(1:Int)),PUnit.unit)∧Zm68_2 s (IntKind.wrap IntKind.i64 (y.1+(1:Int)),PUnit.unit)<Zm68_2 s y else Zi68_2 s (IntKind.wrap IntKind.i64 (y.1+(1:Int)),PUnit.unit)∧Zm68_2 s (IntKind.wrap IntKind.i64 (y.1+(1:Int)),PUnit.unit)<Zm68_2 s y else Lf [DV.one (Cell.lit (Value.bool (decide ((1:Int)≤(↑(ByteArray.size s):Int)∧(↑(ByteArray.size s):Int)≤(12:Int)))))] [DV.one (Cell.lit (Value.bool (nameOk s)))]):=by kernel_rfl
theorem Zo68:Holds EE (68,Zk68):=by
 refine holds_of EE_ok Go.Proofs.Tryz.func68 Zk68 (by kernel_rfl) Zu68 (us_ok _) Za68 (fun(s:ByteArray) hp hb=> ?_)
 have hl_s:=bdS (s:=s) (hb _ m0)
 clear hp hb
 rw[Zv68 s]
 dsimp only
 refine⟨⟨by omega,by omega,rfl,by omega⟩,?_⟩
 rintro⟨i,⟨⟩⟩ ⟨h1,h2,hR,hS⟩
 have hl:=bs_len s
 simp only[bs_eq,u8_i64]
 refine if_cond (fun hc=> ?_) (fun hc=> ?_)
 ·have hc:=of_decide_eq_true hc
  have hb:=(List.getD (bs s) i.toNat 0).toNat_lt
  rw[all_step _ _ 0 h1 (by omega)] at hR
  rw[wrap_i64 (by omega) (by omega)]
  have hN:wordS s=false→nameOk s=false:=fun h=>by simp[nameOk,h]
  refine⟨by omega,by omega,⟨by omega,by omega⟩,if_cond (fun h=>Lf_ff (hN ?_)) (fun h=>if_cond (fun h'=>⟨by omega,by omega,if_cond (fun h''=>Lf_ff ?_) (fun h''=>⟨⟨by omega,by omega,?_,fun _=> ?_⟩,?_⟩)⟩) (fun h'=>⟨⟨by omega,by omega,?_,fun _=>hS ?_⟩,?_⟩))⟩
  ·rw[←hR];simp only[byteP];simp at h;simp[h]
  ·have h':i=0:=by simpa using h'
   subst h'
   have h'':smallB ((List.getD (bs s) 0 0).toNat:Int)=false:=by simp only[smallB];grind
   simp only[nameOk,h''];grind
  ·rw[←hR];simp only[byteP];simp at h;simp[h]
  ·have h':i=0:=by simpa using h'
   subst h'
   simpa[smallB] using h''
  ·simp only[Zm68_2];omega
  ·rw[←hR];simp only[byteP];simp at h;simp[h]
  ·have h':¬i=0:=by simpa using h'
   omega
  ·simp only[Zm68_2];omega
 ·have hc:=of_decide_eq_false hc
  rw[drop_end _ (by omega)] at hR
  refine Lf_b ?_
  simp only[nameOk,←hR]
  by_cases hz:0<i
  ·rw[hS hz];simp only[List.all_nil];grind
  ·rw[decide_eq_false (by omega),decide_eq_false (by omega)];rfl
def Zh68:HH:=⟨_,Zo68⟩
def Zk186:Con UU where
 α:=ByteArray
 md:=[.ro]
 of:=o1 oS
 ds:=fun x=>[dS x]
 pre:=fun _=>[]
 res:=fun s=>⟨[.one (.lit (.bool (decide (s.size≤20)&&wordS s)))],true,[]⟩
 law:=l1 lS
def Zi186_2(s:ByteArray):Int×Unit→Prop:=fun(i,_)=>0≤i∧i≤s.size∧((bs s).drop i.toNat).all (byteP wordB)=wordS s
def Zm186_2(s:ByteArray):Int×Unit→Nat:=fun(i,_)=>s.size-i.toNat
def Za186:Zk186.α→Nat→Option (Ann UU):=fun s=>annL [(2,annOf [.slot 3 (3,1024) (.lit (.int .i64))] (fun _=>Zi186_2 s) (Zm186_2 s))]
def Zu186:=us [Zh109]
theorem Zv186(s:ByteArray):goal EE Zu186 Go.Proofs.Tryz.f186 Zk186 Za186 s=(Zi186_2 s ((0:Int),())∧
 ∀(y:Int×PUnit),
  let x0:Int:=(↑(UInt8.toNat (List.getD s.data.toList (Int.toNat y.1) (0:UInt8))):Int);
  Zi186_2 s y→bif decide (y.1<(↑(ByteArray.size s):Int)) then(0:Int)≤y.1∧Int.toNat y.1<ByteArray.size s∧((0:Int)≤x0∧x0≤(255:Int))∧bif !wordB x0 then Lf [DV.one (Cell.lit (Value.bool false))] [DV.one (Cell.lit (Value.bool (decide (ByteArray.size s≤(20:Nat))&&wordS s)))] else Zi186_2 s (IntKind.wrap IntKind.i64 (y.1+(1:Int)),PUnit.unit)∧Zm186_2 s (IntKind.wrap IntKind.i64 (y.1+(1:Int)),PUnit.unit)<Zm186_2 s y else Lf [DV.one (Cell.lit (Value.bool (decide ((↑(ByteArray.size s):Int)≤(20:Int)))))] [DV.one (Cell.lit (Value.bool (decide (ByteArray.size s≤(20:Nat))&&wordS s)))]):=by kernel_rfl
theorem Zo186:Holds EE (186,Zk186):=by
 refine holds_of EE_ok Go.Proofs.Tryz.func186 Zk186 (by kernel_rfl) Zu186 (us_ok _) Za186 (fun(s:ByteArray) hp hb=> ?_)
 have hl_s:=bdS (s:=s) (hb _ m0)
 clear hp hb
 rw[Zv186 s]
 dsimp only
 refine⟨⟨by omega,by omega,rfl⟩,?_⟩
 rintro⟨i,⟨⟩⟩ ⟨h1,h2,hR⟩
 have hl:=bs_len s
 simp only[bs_eq]
 refine if_cond (fun hc=> ?_) (fun hc=> ?_)
 ·have hc:=of_decide_eq_true hc
  have hb:=(List.getD (bs s) i.toNat 0).toNat_lt
  rw[all_step _ _ 0 h1 (by omega)] at hR
  rw[wrap_i64 (by omega) (by omega)]
  refine⟨by omega,by omega,⟨by omega,by omega⟩,if_cond (fun h=>Lf_ff ?_) (fun h=>⟨⟨by omega,by omega,?_⟩,?_⟩)⟩
  ·rw[←hR];simp only[byteP];simp at h;simp[h]
  ·rw[←hR];simp only[byteP];simp at h;simp[h]
  ·simp only[Zm186_2];omega
 ·have hc:=of_decide_eq_false hc
  rw[drop_end _ (by omega)] at hR
  refine Lf_b ?_
  rw[←hR];simp;omega
def Zh186:HH:=⟨_,Zo186⟩
def Zk183:Con UU where
 α:=DVal
 md:=[.ro]
 of:=o1 (oA .eVal)
 ds:=fun x=>[dA .eVal x]
 pre:=fun _=>[]
 res:=fun v=>⟨[.one (.lit (.bool (valOk v)))],true,[]⟩
 law:=l1 (lA .eVal)
def Za183:Zk183.α→Nat→Option (Ann UU):=fun v=>annL []
def Zu183:=us [Zh74,Zh115]
theorem Zv183(v:DVal):goal EE Zu183 Go.Proofs.Tryz.f183 Zk183 Za183 v=(bif v.K==(1:Int) then bif decide ((-1000000000:Int)≤v.N∧v.N≤(1000000000:Int)) then Lb (ByteArray.toList v.S==ByteArray.toList {data:= #[]:ByteArray}) (valOk v) else Lb false (valOk v) else bif v.K==(2:Int) then bif v.N==(0:Int) then Lb (decide ((↑(ByteArray.size v.S):Int)≤(20:Int))&&wordS v.S) (valOk v) else Lb false (valOk v) else Lb false (valOk v)):=by kernel_rfl
theorem Zo183:Holds EE (183,Zk183):=by
 refine holds_of EE_ok Go.Proofs.Tryz.func183 Zk183 (by kernel_rfl) Zu183 (us_ok _) Za183 (fun(v:DVal) hp hb=> ?_)
 have hl_v_S:=bd_eVal (x:=v) (hb _ m0)
 clear hp hb
 rw[Zv183 v]
 have e:(ByteArray.toList (DVal.S v)==ByteArray.toList {data:= #[]})=decide (v.S=noBytes):=toList_beq _ _
 simp only[e,valOk]
 repeat' (refine if_cond (fun h=> ?_) (fun h=> ?_))
 all_goals (refine Lf_b ?_;grind)
def Zh183:HH:=⟨_,Zo183⟩
def Zk180:Con UU where
 α:=DVal
 md:=[.ro]
 of:=o1 (oA .eVal)
 ds:=fun x=>[dA .eVal x]
 pre:=fun _=>[]
 res:=fun v=>⟨[.one (.lit (.bool (valOk v)))],true,[]⟩
 law:=l1 (lA .eVal)
def Za180:Zk180.α→Nat→Option (Ann UU):=fun v=>annL []
def Zu180:=us [Zh30,Zh186]
theorem Zv180(v:DVal):goal EE Zu180 Go.Proofs.Tryz.f180 Zk180 Za180 v=(bif v.K==(1:Int) then bif decide ((-1000000000:Int)≤v.N∧v.N≤(1000000000:Int)) then Lb (ByteArray.toList v.S==ByteArray.toList {data:= #[]:ByteArray}) (valOk v) else Lb false (valOk v) else bif v.K==(2:Int) then bif decide (ByteArray.size v.S≤(20:Nat))&&wordS v.S then Lb (v.N==(0:Int)) (valOk v) else Lb false (valOk v) else Lb false (valOk v)):=by kernel_rfl
theorem Zo180:Holds EE (180,Zk180):=by
 refine holds_of EE_ok Go.Proofs.Tryz.func180 Zk180 (by kernel_rfl) Zu180 (us_ok _) Za180 (fun(v:DVal) hp hb=> ?_)
 have hl_v_S:=bd_eVal (x:=v) (hb _ m0)
 clear hp hb
 rw[Zv180 v]
 have e:(ByteArray.toList (DVal.S v)==ByteArray.toList {data:= #[]})=decide (v.S=noBytes):=toList_beq _ _
 simp only[e,valOk]
 repeat' (refine if_cond (fun h=> ?_) (fun h=> ?_))
 all_goals (refine Lf_b ?_;grind)
def Zh180:HH:=⟨_,Zo180⟩
def Zk45:Con UU where
 α:=Int
 md:=[.ro]
 of:=o1 oI
 ds:=fun x=>[dI x]
 pre:=fun k=>[k≤4611686018427387903]
 res:=fun k=>⟨[.one (.lit (.string (markText k)))],true,[]⟩
 law:=l1 lI
def Zi45_4(k:Int):Int×ByteArray×Unit→Prop:=fun(j,out,_)=>0≤j∧j≤k∧(∃l d,out=⟨l.toArray⟩∧j.toNat≤d∧mtl d j.toNat l=mtl k.toNat k.toNat []∧l.length≤k-j)
def Zm45_4(k:Int):Int×ByteArray×Unit→Nat:=fun(j,out,_)=>j.toNat
def Za45:Zk45.α→Nat→Option (Ann UU):=fun k=>annL [(4,annOf [.slot 0 (0,1024) (.lit (.int .i64)),.slot 3 (3,1024) (.lit .str)] (fun _=>Zi45_4 k) (Zm45_4 k))]
def Zu45:List (FuncId×Con UU):=[]
theorem Zv45(k:Int):goal EE Zu45 Go.Proofs.Tryz.f45 Zk45 Za45 k=(bif decide (k≤(0:Int)) then Lf [DV.one (Cell.lit (Value.string {data:= #[(109:UInt8),(48:UInt8)]:ByteArray}))] [DV.one (Cell.lit (Value.string (markText k)))]
else
 Zi45_4 k (k,{data:= #[]:ByteArray},PUnit.unit)∧
  ∀(y:Int×ByteArray×PUnit),
   let x0:Nat:=ByteArray.size y.2.1;
   let x1:ByteArray:=strOfNums (List.map (fun(x:Cd.T Cd.byte)=>x) [IntKind.wrap IntKind.u8 (IntKind.wrap IntKind.i64 ((48:Int)+Int.tmod y.1 (10:Int)))]);
   Zi45_4 k y→bif decide (y.1>(0:Int)) then(10:Int)≠(0:Int)∧ByteArray.size x1+x0≤(4611686018427387904:Nat)∧(10:Int)≠(0:Int)∧Zi45_4 k (IntKind.wrap IntKind.i64 (Int.tdiv y.1 (10:Int)),x1++y.2.1,PUnit.unit)∧Zm45_4 k (IntKind.wrap IntKind.i64 (Int.tdiv y.1 (10:Int)),x1++y.2.1,PUnit.unit)<Zm45_4 k y else ByteArray.size {data:= #[(109:UInt8)]:ByteArray}+x0≤(4611686018427387904:Nat)∧Lf [DV.one (Cell.lit (Value.string ({data:= #[(109:UInt8)]:ByteArray}++y.2.1)))] [DV.one (Cell.lit (Value.string (markText k)))]):=by kernel_rfl
theorem Zo45:Holds EE (45,Zk45):=by
 refine holds_of EE_ok Go.Proofs.Tryz.func45 Zk45 (by kernel_rfl) Zu45 all_nil Za45 (fun(k:Int) hp hb=> ?_)
 have hl_k:=bdI (n:=k) (hb _ m0)
 have hp0:k≤4611686018427387903:=hp _ m0
 clear hp hb
 rw[Zv45 k]
 dsimp only
 refine if_cond (fun h=>Lf_s ?_) (fun h=> ?_)
 ·have h:=of_decide_eq_true h;simp only[markText];rw[if_pos h]
 have h0:=of_decide_eq_false h
 refine⟨⟨by omega,by omega,[],k.toNat,rfl,Nat.le_refl _,rfl,by simp⟩,?_⟩
 rintro⟨j,out,⟨⟩⟩ ⟨h1,h2,l,d,rfl,hd,hm,hl⟩
 simp only
 have hz:∀l:List UInt8,(ByteArray.mk l.toArray).size=l.length:=fun l=>by simp[ByteArray.size]
 refine if_cond (fun h=> ?_) (fun h=> ?_)
 ·have h:=of_decide_eq_true h
  have ht:Int.tmod j 10=j%10:=Int.tmod_eq_emod_of_nonneg h1
  have hq:Int.tdiv j 10=j/10:=Int.tdiv_eq_ediv_of_nonneg h1
  have hu:IntKind.wrap .u8 (48+j%10)=48+j%10:=by simp only[IntKind.wrap];simp[IntKind.bits,IntKind.signed];omega
  rw[ht,hq,wrap_i64 (by omega) (by omega),wrap_i64 (by omega) (by omega),hu]
  have hs:∀l:List UInt8,strOfNums (List.map (fun(x:Int)=>x) [48+j%10])++(⟨l.toArray⟩:ByteArray)=⟨((UInt8.ofNat (48+j.toNat%10))::l).toArray⟩:=fun l=>by
   have e:(48+j%10).toNat=48+j.toNat%10:=by omega
   simp only[strOfNums,List.map_cons,List.map_nil,e]
   apply ByteArray.ext
   simp
  have hs1:(strOfNums (List.map (fun(x:Int)=>x) [48+j%10])).size=1:=rfl
  refine⟨by omega,by erw[hs1];rw[hz];omega,by omega,⟨by omega,by omega,_,d-1,hs l,by omega,?_,by simp only[List.length_cons];omega⟩,by simp only[Zm45_4];omega⟩
  rw[←hm]
  obtain⟨d,rfl⟩:∃e,d=e+1:=⟨d-1,by omega⟩
  have e:(j/10).toNat=j.toNat/10:=by omega
  rw[e]
  simp only[Nat.add_sub_cancel,mtl]
  rw[if_neg (by omega)]
 ·have h:=of_decide_eq_false h
  have hj:j.toNat=0:=by omega
  rw[hj,mtl_zero] at hm
  refine⟨by rw[hz];simp[ByteArray.size];omega,Lf_s ?_⟩
  simp only[markText]
  rw[if_neg h0,←hm]
  apply ByteArray.ext
  simp
def Zh45:HH:=⟨_,Zo45⟩
def Zk128:Con UU where
 α:=(List Int)×(List Int)
 md:=[.ro,.ro]
 of:=oC (oL .int) (o1 (oL .int))
 ds:=fun x=>[dL .int x.1,dL .int x.2]
 pre:=fun _=>[]
 res:=fun(a,b)=>⟨[.one (.lit (.bool (decide (a=b))))],true,[]⟩
 law:=lC (lL .int) (l1 (lL .int))
def Zi128_4(a:(List Int))(b:(List Int)):Int×Unit→Prop:=fun(i,_)=>0≤i∧i≤a.length∧a.length=b.length∧(a.drop i.toNat=b.drop i.toNat↔a=b)
def Zm128_4(a:(List Int))(b:(List Int)):Int×Unit→Nat:=fun(i,_)=>a.length-i.toNat
def Za128:Zk128.α→Nat→Option (Ann UU):=fun(a,b)=>annL [(4,annOf [.slot 5 (5,1024) (.lit (.int .i64))] (fun _=>Zi128_4 a b) (Zm128_4 a b))]
def Zu128:List (FuncId×Con UU):=[]
theorem Zv128(a:(List Int))(b:(List Int)):goal EE Zu128 Go.Proofs.Tryz.f128 Zk128 Za128 (a,b)=(bif (a.length:Int) !=(b.length:Int) then Lb false (decide (a=b)) else Zi128_4 a b ((0:Int),())∧∀(y:Int×PUnit),Zi128_4 a b y→bif decide (y.1<(a.length:Int)) then(0:Int)≤y.1∧y.1.toNat<a.length∧(0:Int)≤y.1∧y.1.toNat<b.length∧bif List.getD a y.1.toNat (0:Int) !=List.getD b y.1.toNat (0:Int) then Lb false (decide (a=b)) else Zi128_4 a b (IntKind.wrap IntKind.i64 (y.1+(1:Int)),())∧Zm128_4 a b (IntKind.wrap IntKind.i64 (y.1+(1:Int)),())<Zm128_4 a b y else Lb true (decide (a=b))):=by kernel_rfl
theorem Zo128:Holds EE (128,Zk128):=by
 refine holds_of EE_ok Go.Proofs.Tryz.func128 Zk128 (by kernel_rfl) Zu128 all_nil Za128 (fun x hp hb=> ?_)
 obtain⟨a,b⟩:=x
 have hl_a:a.length≤9223372036854775807:=bdL (hb _ m0)
 have hl_b:b.length≤9223372036854775807:=bdL (hb _ m1)
 clear hp hb
 rw[Zv128 a b]
 refine if_cond (fun h=>Lf_f ?_) (fun h=>⟨?_,?_⟩)
 ·rintro rfl;simp at h
 ·simp[Zi128_4] at*;omega
 rintro⟨i,⟨⟩⟩ ⟨h1,h2,h3,hR⟩
 simp only at*
 refine if_cond (fun hc=> ?_) (fun hc=> ?_)
 ·have hc:i<a.length:=by simpa using hc
  rw[drop_step a (0:Int) h1 hc,drop_step b (0:Int) h1 (by omega)] at hR
  rw[wrap_i64 (by omega) (by omega)]
  refine⟨by omega,by omega,by omega,by omega,if_cond (fun h=>Lf_f ?_) (fun h=>⟨⟨by omega,by omega,h3,?_⟩,?_⟩)⟩
  ·rw[←hR];simp at h;simp[h]
  ·rw[←hR];simp at h;simp[h]
  ·simp only[Zm128_4];omega
 ·have hc:a.length≤i:=by simpa using hc
  rw[drop_end a hc,drop_end b (by omega)] at hR
  exact Lf_t (hR.1 rfl)
def Zh128:HH:=⟨_,Zo128⟩
def Zk92:Con UU where
 α:=(List Int)×Int
 md:=[.wr,.ro]
 of:=oC (oL .int) (o1 oI)
 ds:=fun x=>[dL .int x.1,dI x.2]
 pre:=fun(a,k)=>[0≤k,k+cntIntS a≤4611686018427387904]
 res:=fun(a,k)=>⟨[.one (.lit (.int .i64 (k+cntIntS a)))],true,[.one (.sl .int (markIntS a k))]⟩
 law:=lC (lL .int) (l1 lI)
def Zi92_2(a:(List Int))(k:Int):List Int×Int×Int×Unit→Prop:=fun(row,kk,i,_)=>0≤i∧i≤a.length∧row=(mkS (fun _ k=>k) (fun _=>1) a k).take i.toNat++a.drop i.toNat∧kk=k+ctS (fun _=>1) (a.take i.toNat)
def Zm92_2(a:(List Int))(k:Int):List Int×Int×Int×Unit→Nat:=fun(row,kk,i,_)=>a.length-i.toNat
def Za92:Zk92.α→Nat→Option (Ann UU):=fun(a,k)=>annL [(2,annOf [.slot 0 (2000000,0) (.own .int true),.slot 1 (1,1024) (.lit (.int .i64)),.slot 5 (5,1024) (.lit (.int .i64))] (fun _=>Zi92_2 a k) (Zm92_2 a k))]
def Zu92:List (FuncId×Con UU):=[]
theorem Zv92(a:(List Int))(k:Int):goal EE Zu92 Go.Proofs.Tryz.f92 Zk92 Za92 (a,k)=(Zi92_2 a k (a,k,(0:Int),())∧
 ∀(y:List Int×Int×Int×PUnit),
  let x0:Nat:=Int.toNat y.2.2.1;
  Zi92_2 a k y→bif decide (y.2.2.1<(↑(List.length y.1):Int)) then(0:Int)≤y.2.2.1∧x0<List.length y.1∧x0<List.length y.1∧Zi92_2 a k (List.set y.1 x0 y.2.1,IntKind.wrap IntKind.i64 (y.2.1+(1:Int)),IntKind.wrap IntKind.i64 (y.2.2.1+(1:Int)),PUnit.unit)∧Zm92_2 a k (List.set y.1 x0 y.2.1,IntKind.wrap IntKind.i64 (y.2.1+(1:Int)),IntKind.wrap IntKind.i64 (y.2.2.1+(1:Int)),PUnit.unit)<Zm92_2 a k y else asD [DV.one (Cell.lit (Value.int IntKind.i64 y.2.1))]=asD [DV.one (Cell.lit (Value.int IntKind.i64 (k+(↑(cntIntS a):Int))))]∧asD [DV.one (Cell.sl Cd.int y.1)]=asD [DV.one (Cell.sl Cd.int (markIntS a k))]):=by kernel_rfl
theorem Zo92:Holds EE (92,Zk92):=by
 refine holds_of EE_ok Go.Proofs.Tryz.func92 Zk92 (by kernel_rfl) Zu92 all_nil Za92 (fun x hp hb=> ?_)
 obtain⟨a,k⟩:=x
 have hl_a:a.length≤9223372036854775807:=bdL (hb _ m0)
 have hl_k:=bdI (n:=k) (hb _ m1)
 have hp0:0≤k:=hp _ m0
 have hp1:k+cntIntS a≤4611686018427387904:=hp _ m1
 clear hp hb
 rw[Zv92 a k]
 dsimp only
 refine⟨⟨by omega,by omega,by simp,by simp[ctS]⟩,?_⟩
 rintro⟨row,kk,i,⟨⟩⟩ ⟨h1,h2,rfl,rfl⟩
 simp only
 have hl:=mk_rl (fun _ k=>k) (fun _=>1) a k h1 h2
 refine if_cond (fun hc=> ?_) (fun hc=> ?_)
 ·have hc:i<a.length:=by have hc:=of_decide_eq_true hc;omega
  have hct:=ctS_take (fun _=>1) a (0:Int) h1 hc
  have hle:=ctS_take_le (fun _=>1) a (i+1).toNat
  have hg:=mk_getD _ a (0:Int) (mk_tl (fun _ k=>k) (fun _=>1) a k h1 h2) h1 hc
  have hM:=mkS_step (fun _ k=>k) (fun _=>1) a (0:Int) k h1 hc
  have hq:(cntIntS a:Int)=ctS (fun _=>1) a:=rfl
  generalize List.getD a i.toNat (0:Int)=x at*
  generalize hkk:k+(ctS (fun _=>1) (a.take i.toNat):Int)=kk at*
  generalize List.take i.toNat (mkS (fun _ k=>k) (fun _=>1) a k)++List.drop i.toNat a=R at*
  simp(disch:=first|omega|(simp only[List.length_modify];omega)) only[List.length_modify,wrap_i64,getD_modify,modify_modify,hg,hl]
  repeat' (first|refine And.intro (by omega) ?_|fail)
  exact⟨⟨by omega,by omega,hM,by omega⟩,by simp only[Zm92_2];omega⟩
 ·have hc:a.length≤i:=by have hc:=of_decide_eq_false hc;omega
  rw[mk_done (fun _ k=>k) (fun _=>1) a k hc,ct_done (fun _=>1) a hc]
  exact⟨rfl,rfl⟩
def Zh92:HH:=⟨_,Zo92⟩
def Zk97:Con UU where
 α:=(List Int)×Int
 md:=[.ro,.ro]
 of:=oC (oL .int) (o1 oI)
 ds:=fun x=>[dL .int x.1,dI x.2]
 pre:=fun(a,k)=>[0≤k,k+cntIntS a≤4611686018427387904]
 res:=fun(a,k)=>⟨[.one (.lit (.int .i64 (if markIntS a k=a then k+cntIntS a else-1)))],true,[]⟩
 law:=lC (lL .int) (l1 lI)
def Zi97_2(a:(List Int))(k:Int):Int×Int×Unit→Prop:=fun(kk,i,_)=>0≤i∧i≤a.length∧kk=k+ctS (fun _=>1) (a.take i.toNat)∧(mkS (fun _ k=>k) (fun _=>1) (a.drop i.toNat) kk=a.drop i.toNat↔mkS (fun _ k=>k) (fun _=>1) a k=a)
def Zm97_2(a:(List Int))(k:Int):Int×Int×Unit→Nat:=fun(kk,i,_)=>a.length-i.toNat
def Za97:Zk97.α→Nat→Option (Ann UU):=fun(a,k)=>annL [(2,annOf [.slot 1 (1,1024) (.lit (.int .i64)),.slot 5 (5,1024) (.lit (.int .i64))] (fun _=>Zi97_2 a k) (Zm97_2 a k))]
def Zu97:List (FuncId×Con UU):=[]
theorem Zv97(a:(List Int))(k:Int):goal EE Zu97 Go.Proofs.Tryz.f97 Zk97 Za97 (a,k)=(Zi97_2 a k (k,(0:Int),())∧
 ∀(y:Int×Int×PUnit),
  let x0:Nat:=Int.toNat y.2.1;
  Zi97_2 a k y→bif decide (y.2.1<(↑(List.length a):Int)) then(0:Int)≤y.2.1∧x0<List.length a∧bif List.getD a x0 (0:Int) !=y.1 then Lf [DV.one (Cell.lit (Value.int IntKind.i64 (-1:Int)))] [DV.one (Cell.lit (Value.int IntKind.i64 (if markIntS a k=a then k+(↑(cntIntS a):Int) else(-1:Int))))] else Zi97_2 a k (IntKind.wrap IntKind.i64 (y.1+(1:Int)),IntKind.wrap IntKind.i64 (y.2.1+(1:Int)),PUnit.unit)∧Zm97_2 a k (IntKind.wrap IntKind.i64 (y.1+(1:Int)),IntKind.wrap IntKind.i64 (y.2.1+(1:Int)),PUnit.unit)<Zm97_2 a k y else Lf [DV.one (Cell.lit (Value.int IntKind.i64 y.1))] [DV.one (Cell.lit (Value.int IntKind.i64 (if markIntS a k=a then k+(↑(cntIntS a):Int) else(-1:Int))))]):=by kernel_rfl
theorem Zo97:Holds EE (97,Zk97):=by
 refine holds_of EE_ok Go.Proofs.Tryz.func97 Zk97 (by kernel_rfl) Zu97 all_nil Za97 (fun x hp hb=> ?_)
 obtain⟨a,k⟩:=x
 have hl_a:a.length≤9223372036854775807:=bdL (hb _ m0)
 have hl_k:=bdI (n:=k) (hb _ m1)
 have hp0:0≤k:=hp _ m0
 have hp1:k+cntIntS a≤4611686018427387904:=hp _ m1
 clear hp hb
 rw[Zv97 a k]
 dsimp only
 refine⟨⟨by omega,by omega,by simp[ctS],by simp⟩,?_⟩
 rintro⟨kk,i,⟨⟩⟩ ⟨h1,h2,hkk,hR⟩
 simp only
 simp only[markIntS]
 refine if_cond (fun hc=> ?_) (fun hc=> ?_)
 ·have hc:i<a.length:=by have hc:=of_decide_eq_true hc;omega
  have hct:=ctS_take (fun _=>1) a (0:Int) h1 hc
  have hle:=ctS_take_le (fun _=>1) a (i+1).toNat
  have hq:(cntIntS a:Int)=ctS (fun _=>1) a:=rfl
  rw[drop_step a (0:Int) h1 hc] at hR
  generalize List.getD a i.toNat (0:Int)=x at*
  simp only[mkS,List.cons.injEq] at hR
  have e:kk+(((1:Nat):Int):Int)=kk+1:=by first|(simp only[CU];done)|(rfl)
  rw[e] at hR
  skip
  simp(disch:=omega) only[wrap_i64,bne_int,toList_beq]
  repeat' (first|refine And.intro (by omega) ?_|fail)
  refine if_cond (fun h=>Lf_no (fun hh=> ?_)) (fun h=> ?_)
  ·have hh:=hR.2 hh;simp_all
  have h:x=kk:=by simpa using h
  subst x
  exact⟨⟨by omega,by omega,by omega,by simpa using hR⟩,by simp only[Zm97_2];omega⟩
 ·have hc:a.length≤i:=by have hc:=of_decide_eq_false hc;omega
  rw[drop_end a hc] at hR
  exact Lf_yes (hR.1 rfl) (by rw[hkk,ct_done _ _ hc];rfl)
def Zh97:HH:=⟨_,Zo97⟩
def Zk167:Con UU where
 α:=DVal×Int
 md:=[.ro,.ro]
 of:=oC (oA .lVal) (o1 oI)
 ds:=fun x=>[dA .lVal x.1,dI x.2]
 pre:=fun(a,left)=>[0≤left]
 res:=fun(a,left)=>⟨[.one (.lit (.int .i64 (szr left (sizeVal a))))],true,[]⟩
 law:=lC (lA .lVal) (l1 lI)
def Za167:Zk167.α→Nat→Option (Ann UU):=fun(a,left)=>annL []
def Zu167:List (FuncId×Con UU):=[]
theorem Zv167(a:DVal)(left:Int):goal EE Zu167 Go.Proofs.Tryz.f167 Zk167 Za167 (a,left)=(let x0:Int:=IntKind.wrap IntKind.i64 (left-(↑(ByteArray.size a.S):Int));
bif decide (x0<(0:Int)) then Lf [DV.one (Cell.lit (Value.int IntKind.i64 (-1:Int)))] [DV.one (Cell.lit (Value.int IntKind.i64 (szr left (sizeVal a))))] else Lf [DV.one (Cell.lit (Value.int IntKind.i64 x0))] [DV.one (Cell.lit (Value.int IntKind.i64 (szr left (sizeVal a))))]):=by kernel_rfl
theorem Zo167:Holds EE (167,Zk167):=by
 refine holds_of EE_ok Go.Proofs.Tryz.func167 Zk167 (by kernel_rfl) Zu167 all_nil Za167 (fun x hp hb=> ?_)
 obtain⟨a,left⟩:=x
 have hl_a_S:=bd_lVal (x:=a) (hb _ m0)
 have hl_left:=bdI (n:=left) (hb _ m1)
 have hp0:0≤left:=hp _ m0
 clear hp hb
 rw[Zv167 a left]
 dsimp only
 rw[wrap_i64 (by omega) (by omega)]
 refine if_cond (fun h=>Lf_i (szr_bad' ?_)) (fun h=> ?_)
 ·have h:=of_decide_eq_true h;simp only[sizeVal];omega
 have h0:=of_decide_eq_false h
 exact Lf_i (by rw[←szr_ok' (by simp only[sizeVal];omega)];simp only[sizeVal];try omega)
def Zh167:HH:=⟨_,Zo167⟩
def Zk171:Con UU where
 α:=DVal
 md:=[.ro]
 of:=o1 (oA .lVal)
 ds:=fun x=>[dA .lVal x]
 pre:=fun a=>[sizeVal a≤4294967296]
 res:=fun a=>⟨[.agg [.lit (.int .i64 a.K),.lit (.int .i64 a.N),.lit (.string a.S)]],true,[]⟩
 law:=l1 (lA .lVal)
def Za171:Zk171.α→Nat→Option (Ann UU):=fun a=>annL []
def Zu171:List (FuncId×Con UU):=[]
theorem Zv171(a:DVal):goal EE Zu171 Go.Proofs.Tryz.f171 Zk171 Za171 a=(Lf [DV.agg [Cell.lit (Value.int IntKind.i64 a.K),Cell.lit (Value.int IntKind.i64 a.N),Cell.lit (Value.string a.S)]] [DV.agg [Cell.lit (Value.int IntKind.i64 a.K),Cell.lit (Value.int IntKind.i64 a.N),Cell.lit (Value.string a.S)]]):=by kernel_rfl
theorem Zo171:Holds EE (171,Zk171):=by
 refine holds_of EE_ok Go.Proofs.Tryz.func171 Zk171 (by kernel_rfl) Zu171 all_nil Za171 (fun(a:DVal) hp hb=> ?_)
 have hl_a_S:=bd_lVal (x:=a) (hb _ m0)
 have hp0:sizeVal a≤4294967296:=hp _ m0
 clear hp hb
 rw[Zv171 a]
 simp only[sizeVal] at hp0
 repeat' (first|exact Lf_rfl _|(refine And.intro (by omega) ?_))
def Zh171:HH:=⟨_,Zo171⟩
def Zk131:Con UU where
 α:=DVal×DVal
 md:=[.ro,.ro]
 of:=oC (oA .eVal) (o1 (oA .eVal))
 ds:=fun x=>[dA .eVal x.1,dA .eVal x.2]
 pre:=fun _=>[]
 res:=fun(a,b)=>⟨[.one (.lit (.bool (decide (a=b))))],true,[]⟩
 law:=lC (lA .eVal) (l1 (lA .eVal))
def Za131:Zk131.α→Nat→Option (Ann UU):=fun(a,b)=>annL []
def Zu131:List (FuncId×Con UU):=[]
theorem Zv131(a:DVal)(b:DVal):goal EE Zu131 Go.Proofs.Tryz.f131 Zk131 Za131 (a,b)=(bif a.K !=b.K then Lb false (decide (a=b)) else bif a.N !=b.N then Lb false (decide (a=b)) else bif !ByteArray.toList a.S==ByteArray.toList b.S then Lb false (decide (a=b)) else Lb true (decide (a=b))):=by kernel_rfl
theorem Zo131:Holds EE (131,Zk131):=by
 refine holds_of EE_ok Go.Proofs.Tryz.func131 Zk131 (by kernel_rfl) Zu131 all_nil Za131 (fun x hp hb=> ?_)
 obtain⟨a,b⟩:=x
 have hl_a_S:=bd_eVal (x:=a) (hb _ m0)
 have hl_b_S:=bd_eVal (x:=b) (hb _ m1)
 clear hp hb
 rw[Zv131 a b]
 obtain⟨aK,aN,aS⟩:=a
 obtain⟨bK,bN,bS⟩:=b
 repeat' (apply if_cond<;>intro _)
 all_goals (first|apply Lf_t|apply Lf_f)<;>simp_all
def Zh131:HH:=⟨_,Zo131⟩
def Zk162:Con UU where
 α:=(List DVal)×(List DVal)
 md:=[.ro,.ro]
 of:=oC (oL .eVal) (o1 (oL .eVal))
 ds:=fun x=>[dL .eVal x.1,dL .eVal x.2]
 pre:=fun _=>[]
 res:=fun(a,b)=>⟨[.one (.lit (.bool (decide (a=b))))],true,[]⟩
 law:=lC (lL .eVal) (l1 (lL .eVal))
def Zi162_4(a:(List DVal))(b:(List DVal)):Int×Unit→Prop:=eqI a b
def Zm162_4(a:(List DVal))(b:(List DVal)):Int×Unit→Nat:=rM1 a
def Za162:Zk162.α→Nat→Option (Ann UU):=fun(a,b)=>annL [(4,annOf [.slot 5 (5,1024) (.lit (.int .i64))] (fun _=>Zi162_4 a b) (Zm162_4 a b))]
def Zu162:=us [Zh131]
theorem Zv162(a:(List DVal))(b:(List DVal)):goal EE Zu162 Go.Proofs.Tryz.f162 Zk162 Za162 (a,b)=(eqV zVal a b):=by kernel_rfl
theorem Zo162:Holds EE (162,Zk162):=by
 refine holds_of EE_ok Go.Proofs.Tryz.func162 Zk162 (by kernel_rfl) Zu162 (us_ok _) Za162 (fun x hp hb=> ?_)
 obtain⟨a,b⟩:=x
 have hl_a:a.length≤9223372036854775807:=bdL (hb _ m0)
 have hl_b:b.length≤9223372036854775807:=bdL (hb _ m1)
 clear hp hb
 rw[Zv162 a b]
 exact eqV_ok hl_a
def Zh162:HH:=⟨_,Zo162⟩
def Zk94:Con UU where
 α:=(List DVal)×Int
 md:=[.wr,.ro]
 of:=oC (oL .eVal) (o1 oI)
 ds:=fun x=>[dL .eVal x.1,dI x.2]
 pre:=fun(a,k)=>[0≤k,k+cntValS a≤4611686018427387904]
 res:=fun(a,k)=>⟨[.one (.lit (.int .i64 (k+cntValS a)))],true,[.one (.sl .eVal (markValS a k))]⟩
 law:=lC (lL .eVal) (l1 lI)
def Zi94_2(a:(List DVal))(k:Int):List DVal×Int×Int×Unit→Prop:=fun(row,kk,i,_)=>0≤i∧i≤a.length∧row=(mkS markVal cntVal a k).take i.toNat++a.drop i.toNat∧kk=k+ctS cntVal (a.take i.toNat)
def Zm94_2(a:(List DVal))(k:Int):List DVal×Int×Int×Unit→Nat:=fun(row,kk,i,_)=>a.length-i.toNat
def Za94:Zk94.α→Nat→Option (Ann UU):=fun(a,k)=>annL [(2,annOf [.slot 0 (2000000,0) (.own .eVal true),.slot 1 (1,1024) (.lit (.int .i64)),.slot 5 (5,1024) (.lit (.int .i64))] (fun _=>Zi94_2 a k) (Zm94_2 a k))]
def Zu94:=us [Zh45]
theorem Zv94(a:(List DVal))(k:Int):goal EE Zu94 Go.Proofs.Tryz.f94 Zk94 Za94 (a,k)=(Zi94_2 a k (a,k,(0:Int),())∧
 ∀(y:List DVal×Int×Int×PUnit),
  let x0:Nat:=Int.toNat y.2.2.1;
  let x3:Int:=IntKind.wrap IntKind.i64 (y.2.1+(1:Int));
  let x4:List DVal:=List.modify y.1 x0 fun(x:DVal)=>{K:=y.2.1,N:=x.N,S:=x.S:DVal};
  let x1:Int:=IntKind.wrap IntKind.i64 (x3+(1:Int));
  let x2:List DVal:=List.modify x4 x0 fun(x:DVal)=>{K:=x.K,N:=x3,S:=x.S:DVal};
  Zi94_2 a k y→bif decide (y.2.2.1<(↑(List.length y.1):Int)) then(0:Int)≤y.2.2.1∧x0<List.length y.1∧x0<List.length y.1∧(0:Int)≤y.2.2.1∧x0<List.length x4∧x0<List.length x4∧x1≤(4611686018427387903:Int)∧(0:Int)≤y.2.2.1∧x0<List.length x2∧x0<List.length x2∧Zi94_2 a k (List.modify x2 x0 fun(x:DVal)=>{K:=x.K,N:=x.N,S:=markText x1:DVal},IntKind.wrap IntKind.i64 (x1+(1:Int)),IntKind.wrap IntKind.i64 (y.2.2.1+(1:Int)),PUnit.unit)∧Zm94_2 a k (List.modify x2 x0 fun(x:DVal)=>{K:=x.K,N:=x.N,S:=markText x1:DVal},IntKind.wrap IntKind.i64 (x1+(1:Int)),IntKind.wrap IntKind.i64 (y.2.2.1+(1:Int)),PUnit.unit)<Zm94_2 a k y else asD [DV.one (Cell.lit (Value.int IntKind.i64 y.2.1))]=asD [DV.one (Cell.lit (Value.int IntKind.i64 (k+(↑(cntValS a):Int))))]∧asD [DV.one (Cell.sl Cd.eVal y.1)]=asD [DV.one (Cell.sl Cd.eVal (markValS a k))]):=by kernel_rfl
theorem Zo94:Holds EE (94,Zk94):=by
 refine holds_of EE_ok Go.Proofs.Tryz.func94 Zk94 (by kernel_rfl) Zu94 (us_ok _) Za94 (fun x hp hb=> ?_)
 obtain⟨a,k⟩:=x
 have hl_a:a.length≤9223372036854775807:=bdL (hb _ m0)
 have hl_k:=bdI (n:=k) (hb _ m1)
 have hp0:0≤k:=hp _ m0
 have hp1:k+cntValS a≤4611686018427387904:=hp _ m1
 clear hp hb
 rw[Zv94 a k]
 dsimp only
 refine⟨⟨by omega,by omega,by simp,by simp[ctS]⟩,?_⟩
 rintro⟨row,kk,i,⟨⟩⟩ ⟨h1,h2,rfl,rfl⟩
 simp only
 have hl:=mk_rl markVal cntVal a k h1 h2
 refine if_cond (fun hc=> ?_) (fun hc=> ?_)
 ·have hc:i<a.length:=by have hc:=of_decide_eq_true hc;omega
  have hct:=ctS_take cntVal a zVal h1 hc
  have hle:=ctS_take_le cntVal a (i+1).toNat
  have hg:=mk_getD _ a zVal (mk_tl markVal cntVal a k h1 h2) h1 hc
  have hM:=fun F hF=>mkS_mod markVal cntVal a zVal k (i:=i) F h1 hc hF
  have hq:(cntValS a:Int)=ctS cntVal a:=rfl
  generalize List.getD a i.toNat zVal=x at*
  generalize hkk:k+(ctS cntVal (a.take i.toNat):Int)=kk at*
  generalize List.take i.toNat (mkS markVal cntVal a k)++List.drop i.toNat a=R at*
  simp only[cntVal] at hct
  simp(disch:=first|omega|(simp only[List.length_modify];omega)) only[List.length_modify,wrap_i64,getD_modify,modify_modify,hg,hl]
  repeat' (first|refine And.intro (by omega) ?_|fail)
  exact⟨⟨by omega,by omega,hM _ (by first|rfl|(simp only[markVal,markBool];rw[Int.tmod_eq_emod_of_nonneg (by omega)];rfl)),by omega⟩,by simp only[Zm94_2];omega⟩
 ·have hc:a.length≤i:=by have hc:=of_decide_eq_false hc;omega
  rw[mk_done markVal cntVal a k hc,ct_done cntVal a hc]
  exact⟨rfl,rfl⟩
def Zh94:HH:=⟨_,Zo94⟩
def Zk99:Con UU where
 α:=(List DVal)×Int
 md:=[.ro,.ro]
 of:=oC (oL .eVal) (o1 oI)
 ds:=fun x=>[dL .eVal x.1,dI x.2]
 pre:=fun(a,k)=>[0≤k,k+cntValS a≤4611686018427387904]
 res:=fun(a,k)=>⟨[.one (.lit (.int .i64 (if markValS a k=a then k+cntValS a else-1)))],true,[]⟩
 law:=lC (lL .eVal) (l1 lI)
def Zi99_2(a:(List DVal))(k:Int):Int×Int×Unit→Prop:=fun(kk,i,_)=>0≤i∧i≤a.length∧kk=k+ctS cntVal (a.take i.toNat)∧(mkS markVal cntVal (a.drop i.toNat) kk=a.drop i.toNat↔mkS markVal cntVal a k=a)
def Zm99_2(a:(List DVal))(k:Int):Int×Int×Unit→Nat:=fun(kk,i,_)=>a.length-i.toNat
def Za99:Zk99.α→Nat→Option (Ann UU):=fun(a,k)=>annL [(2,annOf [.slot 1 (1,1024) (.lit (.int .i64)),.slot 5 (5,1024) (.lit (.int .i64))] (fun _=>Zi99_2 a k) (Zm99_2 a k))]
def Zu99:=us [Zh45]
theorem Zv99(a:(List DVal))(k:Int):goal EE Zu99 Go.Proofs.Tryz.f99 Zk99 Za99 (a,k)=(Zi99_2 a k (k,(0:Int),())∧
 ∀(y:Int×Int×PUnit),
  let x1:Nat:=Int.toNat y.2.1;
  let x2:Int:=IntKind.wrap IntKind.i64 (IntKind.wrap IntKind.i64 (y.1+(1:Int))+(1:Int));
  let x0:DVal:=List.getD a x1 zVal;
  Zi99_2 a k y→bif decide (y.2.1<(↑(List.length a):Int)) then(0:Int)≤y.2.1∧x1<List.length a∧bif x0.K !=y.1 then Lf [DV.one (Cell.lit (Value.int IntKind.i64 (-1:Int)))] [DV.one (Cell.lit (Value.int IntKind.i64 (if markValS a k=a then k+(↑(cntValS a):Int) else(-1:Int))))] else(0:Int)≤y.2.1∧x1<List.length a∧bif x0.N !=IntKind.wrap IntKind.i64 (y.1+(1:Int)) then Lf [DV.one (Cell.lit (Value.int IntKind.i64 (-1:Int)))] [DV.one (Cell.lit (Value.int IntKind.i64 (if markValS a k=a then k+(↑(cntValS a):Int) else(-1:Int))))] else(0:Int)≤y.2.1∧x1<List.length a∧x2≤(4611686018427387903:Int)∧bif !ByteArray.toList x0.S==ByteArray.toList (markText x2) then Lf [DV.one (Cell.lit (Value.int IntKind.i64 (-1:Int)))] [DV.one (Cell.lit (Value.int IntKind.i64 (if markValS a k=a then k+(↑(cntValS a):Int) else(-1:Int))))] else Zi99_2 a k (IntKind.wrap IntKind.i64 (x2+(1:Int)),IntKind.wrap IntKind.i64 (y.2.1+(1:Int)),PUnit.unit)∧Zm99_2 a k (IntKind.wrap IntKind.i64 (x2+(1:Int)),IntKind.wrap IntKind.i64 (y.2.1+(1:Int)),PUnit.unit)<Zm99_2 a k y else Lf [DV.one (Cell.lit (Value.int IntKind.i64 y.1))] [DV.one (Cell.lit (Value.int IntKind.i64 (if markValS a k=a then k+(↑(cntValS a):Int) else(-1:Int))))]):=by kernel_rfl
theorem Zo99:Holds EE (99,Zk99):=by
 refine holds_of EE_ok Go.Proofs.Tryz.func99 Zk99 (by kernel_rfl) Zu99 (us_ok _) Za99 (fun x hp hb=> ?_)
 obtain⟨a,k⟩:=x
 have hl_a:a.length≤9223372036854775807:=bdL (hb _ m0)
 have hl_k:=bdI (n:=k) (hb _ m1)
 have hp0:0≤k:=hp _ m0
 have hp1:k+cntValS a≤4611686018427387904:=hp _ m1
 clear hp hb
 rw[Zv99 a k]
 dsimp only
 refine⟨⟨by omega,by omega,by simp[ctS],by simp⟩,?_⟩
 rintro⟨kk,i,⟨⟩⟩ ⟨h1,h2,hkk,hR⟩
 simp only
 simp only[markValS]
 refine if_cond (fun hc=> ?_) (fun hc=> ?_)
 ·have hc:i<a.length:=by have hc:=of_decide_eq_true hc;omega
  have hct:=ctS_take cntVal a zVal h1 hc
  have hle:=ctS_take_le cntVal a (i+1).toNat
  have hq:(cntValS a:Int)=ctS cntVal a:=rfl
  rw[drop_step a zVal h1 hc] at hR
  generalize List.getD a i.toNat zVal=x at*
  simp only[mkS,List.cons.injEq] at hR
  have e:kk+(cntVal x:Int)=kk+1+1+1:=by first|(simp only[cntVal];done)|(simp only[cntVal];omega)
  rw[e] at hR
  simp only[markVal,cntVal] at hR hct
  simp(disch:=omega) only[wrap_i64,bne_int,toList_beq]
  obtain⟨x_K,x_N,x_S⟩:=x
  simp only[DVal.mk.injEq] at*
  repeat' (first|refine And.intro (by omega) ?_|fail)
  refine if_cond (fun h=>Lf_no (fun hh=> ?_)) (fun h=> ?_)
  ·have hh:=hR.2 hh;simp_all
  have h:x_K=kk:=by simpa using h
  subst x_K
  repeat' (first|refine And.intro (by omega) ?_|fail)
  refine if_cond (fun h=>Lf_no (fun hh=> ?_)) (fun h=> ?_)
  ·have hh:=hR.2 hh;simp_all
  have h:x_N=kk+1:=by simpa using h
  subst x_N
  repeat' (first|refine And.intro (by omega) ?_|fail)
  refine if_cond (fun h=>Lf_no (fun hh=> ?_)) (fun h=> ?_)
  ·have hh:=hR.2 hh;simp_all
  have h:x_S=markText (kk+1+1):=by simpa using h
  subst x_S
  exact⟨⟨by omega,by omega,by omega,by simpa using hR⟩,by simp only[Zm99_2];omega⟩
 ·have hc:a.length≤i:=by have hc:=of_decide_eq_false hc;omega
  rw[drop_end a hc] at hR
  exact Lf_yes (hR.1 rfl) (by rw[hkk,ct_done _ _ hc];rfl)
def Zh99:HH:=⟨_,Zo99⟩
def Zk130:Con UU where
 α:=DFact×DFact
 md:=[.ro,.ro]
 of:=oC (oA .eFact) (o1 (oA .eFact))
 ds:=fun x=>[dA .eFact x.1,dA .eFact x.2]
 pre:=fun _=>[]
 res:=fun(a,b)=>⟨[.one (.lit (.bool (decide (a=b))))],true,[]⟩
 law:=lC (lA .eFact) (l1 (lA .eFact))
def Za130:Zk130.α→Nat→Option (Ann UU):=fun(a,b)=>annL []
def Zu130:=us [Zh162]
theorem Zv130(a:DFact)(b:DFact):goal EE Zu130 Go.Proofs.Tryz.f130 Zk130 Za130 (a,b)=(bif !ByteArray.toList a.Kind==ByteArray.toList b.Kind then Lb false (decide (a=b)) else bif !decide (a.Fields=b.Fields) then Lb false (decide (a=b)) else Lb true (decide (a=b))):=by kernel_rfl
theorem Zo130:Holds EE (130,Zk130):=by
 refine holds_of EE_ok Go.Proofs.Tryz.func130 Zk130 (by kernel_rfl) Zu130 (us_ok _) Za130 (fun x hp hb=> ?_)
 obtain⟨a,b⟩:=x
 have hz0:=bd_eFact (x:=a) (hb _ m0)
 have hl_a_Kind:=hz0.1
 have hl_a_Fields:=hz0.2
 have hz1:=bd_eFact (x:=b) (hb _ m1)
 have hl_b_Kind:=hz1.1
 have hl_b_Fields:=hz1.2
 clear hp hb
 rw[Zv130 a b]
 obtain⟨aKind,aFields⟩:=a
 obtain⟨bKind,bFields⟩:=b
 repeat' (apply if_cond<;>intro _)
 all_goals (first|apply Lf_t|apply Lf_f)<;>simp_all
def Zh130:HH:=⟨_,Zo130⟩
def Zk82:Con UU where
 α:=DTimer×DTimer
 md:=[.ro,.ro]
 of:=oC (oA .eTimer) (o1 (oA .eTimer))
 ds:=fun x=>[dA .eTimer x.1,dA .eTimer x.2]
 pre:=fun _=>[]
 res:=fun(a,b)=>⟨[.one (.lit (.bool (decide (a=b))))],true,[]⟩
 law:=lC (lA .eTimer) (l1 (lA .eTimer))
def Za82:Zk82.α→Nat→Option (Ann UU):=fun(a,b)=>annL []
def Zu82:=us [Zh130]
theorem Zv82(a:DTimer)(b:DTimer):goal EE Zu82 Go.Proofs.Tryz.f82 Zk82 Za82 (a,b)=(bif a.At !=b.At then Lb false (decide (a=b)) else bif !decide (a.F=b.F) then Lb false (decide (a=b)) else Lb true (decide (a=b))):=by kernel_rfl
theorem Zo82:Holds EE (82,Zk82):=by
 refine holds_of EE_ok Go.Proofs.Tryz.func82 Zk82 (by kernel_rfl) Zu82 (us_ok _) Za82 (fun x hp hb=> ?_)
 obtain⟨a,b⟩:=x
 have hz0:=bd_eTimer (x:=a) (hb _ m0)
 have hl_a_F_Kind:=hz0.1
 have hl_a_F_Fields:=hz0.2
 have hz1:=bd_eTimer (x:=b) (hb _ m1)
 have hl_b_F_Kind:=hz1.1
 have hl_b_F_Fields:=hz1.2
 clear hp hb
 rw[Zv82 a b]
 obtain⟨aAt,aF⟩:=a
 obtain⟨bAt,bF⟩:=b
 repeat' (apply if_cond<;>intro _)
 all_goals (first|apply Lf_t|apply Lf_f)<;>simp_all
def Zh82:HH:=⟨_,Zo82⟩
def Zk40:Con UU where
 α:=(List DTimer)×(List DTimer)
 md:=[.ro,.ro]
 of:=oC (oL .eTimer) (o1 (oL .eTimer))
 ds:=fun x=>[dL .eTimer x.1,dL .eTimer x.2]
 pre:=fun _=>[]
 res:=fun(a,b)=>⟨[.one (.lit (.bool (decide (a=b))))],true,[]⟩
 law:=lC (lL .eTimer) (l1 (lL .eTimer))
def Zi40_4(a:(List DTimer))(b:(List DTimer)):Int×Unit→Prop:=eqI a b
def Zm40_4(a:(List DTimer))(b:(List DTimer)):Int×Unit→Nat:=rM1 a
def Za40:Zk40.α→Nat→Option (Ann UU):=fun(a,b)=>annL [(4,annOf [.slot 5 (5,1024) (.lit (.int .i64))] (fun _=>Zi40_4 a b) (Zm40_4 a b))]
def Zu40:=us [Zh82]
theorem Zv40(a:(List DTimer))(b:(List DTimer)):goal EE Zu40 Go.Proofs.Tryz.f40 Zk40 Za40 (a,b)=(eqV zTimer a b):=by kernel_rfl
theorem Zo40:Holds EE (40,Zk40):=by
 refine holds_of EE_ok Go.Proofs.Tryz.func40 Zk40 (by kernel_rfl) Zu40 (us_ok _) Za40 (fun x hp hb=> ?_)
 obtain⟨a,b⟩:=x
 have hl_a:a.length≤9223372036854775807:=bdL (hb _ m0)
 have hl_b:b.length≤9223372036854775807:=bdL (hb _ m1)
 clear hp hb
 rw[Zv40 a b]
 exact eqV_ok hl_a
def Zh40:HH:=⟨_,Zo40⟩
def Zk52:Con UU where
 α:=(List DTimer)×Int
 md:=[.wr,.ro]
 of:=oC (oL .eTimer) (o1 oI)
 ds:=fun x=>[dL .eTimer x.1,dI x.2]
 pre:=fun(a,k)=>[0≤k,k+cntTimerS a≤4611686018427387904]
 res:=fun(a,k)=>⟨[.one (.lit (.int .i64 (k+cntTimerS a)))],true,[.one (.sl .eTimer (markTimerS a k))]⟩
 law:=lC (lL .eTimer) (l1 lI)
def Zi52_2(a:(List DTimer))(k:Int):List DTimer×Int×Int×Unit→Prop:=fun(row,kk,i,_)=>0≤i∧i≤a.length∧row=(mkS markTimer cntTimer a k).take i.toNat++a.drop i.toNat∧kk=k+ctS cntTimer (a.take i.toNat)
def Zm52_2(a:(List DTimer))(k:Int):List DTimer×Int×Int×Unit→Nat:=fun(row,kk,i,_)=>a.length-i.toNat
def Za52:Zk52.α→Nat→Option (Ann UU):=fun(a,k)=>annL [(2,annOf [.slot 0 (2000000,0) (.own .eTimer true),.slot 1 (1,1024) (.lit (.int .i64)),.slot 5 (5,1024) (.lit (.int .i64))] (fun _=>Zi52_2 a k) (Zm52_2 a k))]
def Zu52:=us [Zh45,Zh94]
theorem Zv52(a:(List DTimer))(k:Int):goal EE Zu52 Go.Proofs.Tryz.f52 Zk52 Za52 (a,k)=(Zi52_2 a k (a,k,(0:Int),())∧
 ∀(y:List DTimer×Int×Int×PUnit),
  let x1:Nat:=Int.toNat y.2.2.1;
  let x3:Int:=IntKind.wrap IntKind.i64 (y.2.1+(1:Int));
  let x4:List DTimer:=List.modify y.1 x1 fun(x:DTimer)=>{At:=y.2.1,F:=x.F:DTimer};
  let x0:List DTimer:=List.modify x4 x1 fun(x:DTimer)=>{At:=x.At,F:={Kind:=markText x3,Fields:=x.F.Fields:DFact}:DTimer};
  let x2:Int:=IntKind.wrap IntKind.i64 (x3+(1:Int));
  let x5:Int:=x2+(↑(cntValS (List.getD x0 x1 zTimer).F.Fields):Int);
  Zi52_2 a k y→bif decide (y.2.2.1<(↑(List.length y.1):Int)) then(0:Int)≤y.2.2.1∧x1<List.length y.1∧x1<List.length y.1∧x3≤(4611686018427387903:Int)∧(0:Int)≤y.2.2.1∧x1<List.length x4∧x1<List.length x4∧(0:Int)≤y.2.2.1∧x1<List.length x0∧x1<List.length x0∧x1<List.length x0∧(0:Int)≤x2∧x5≤(4611686018427387904:Int)∧Zi52_2 a k (List.modify x0 x1 fun(x:DTimer)=>{At:=x.At,F:={Kind:=x.F.Kind,Fields:=markValS (List.getD x0 x1 zTimer).F.Fields x2:DFact}:DTimer},x5,IntKind.wrap IntKind.i64 (y.2.2.1+(1:Int)),PUnit.unit)∧Zm52_2 a k (List.modify x0 x1 fun(x:DTimer)=>{At:=x.At,F:={Kind:=x.F.Kind,Fields:=markValS (List.getD x0 x1 zTimer).F.Fields x2:DFact}:DTimer},x5,IntKind.wrap IntKind.i64 (y.2.2.1+(1:Int)),PUnit.unit)<Zm52_2 a k y else asD [DV.one (Cell.lit (Value.int IntKind.i64 y.2.1))]=asD [DV.one (Cell.lit (Value.int IntKind.i64 (k+(↑(cntTimerS a):Int))))]∧asD [DV.one (Cell.sl Cd.eTimer y.1)]=asD [DV.one (Cell.sl Cd.eTimer (markTimerS a k))]):=by kernel_rfl
theorem Zo52:Holds EE (52,Zk52):=by
 refine holds_of EE_ok Go.Proofs.Tryz.func52 Zk52 (by kernel_rfl) Zu52 (us_ok _) Za52 (fun x hp hb=> ?_)
 obtain⟨a,k⟩:=x
 have hl_a:a.length≤9223372036854775807:=bdL (hb _ m0)
 have hl_k:=bdI (n:=k) (hb _ m1)
 have hp0:0≤k:=hp _ m0
 have hp1:k+cntTimerS a≤4611686018427387904:=hp _ m1
 clear hp hb
 rw[Zv52 a k]
 dsimp only
 refine⟨⟨by omega,by omega,by simp,by simp[ctS]⟩,?_⟩
 rintro⟨row,kk,i,⟨⟩⟩ ⟨h1,h2,rfl,rfl⟩
 simp only
 have hl:=mk_rl markTimer cntTimer a k h1 h2
 refine if_cond (fun hc=> ?_) (fun hc=> ?_)
 ·have hc:i<a.length:=by have hc:=of_decide_eq_true hc;omega
  have hct:=ctS_take cntTimer a zTimer h1 hc
  have hle:=ctS_take_le cntTimer a (i+1).toNat
  have hg:=mk_getD _ a zTimer (mk_tl markTimer cntTimer a k h1 h2) h1 hc
  have hM:=fun F hF=>mkS_mod markTimer cntTimer a zTimer k (i:=i) F h1 hc hF
  have hq:(cntTimerS a:Int)=ctS cntTimer a:=rfl
  generalize List.getD a i.toNat zTimer=x at*
  generalize hkk:k+(ctS cntTimer (a.take i.toNat):Int)=kk at*
  generalize List.take i.toNat (mkS markTimer cntTimer a k)++List.drop i.toNat a=R at*
  simp only[cntTimer] at hct
  simp(disch:=first|omega|(simp only[List.length_modify];omega)) only[List.length_modify,wrap_i64,getD_modify,modify_modify,hg,hl]
  repeat' (first|refine And.intro (by omega) ?_|fail)
  exact⟨⟨by omega,by omega,hM _ (by first|rfl|(simp only[markTimer,markBool];rw[Int.tmod_eq_emod_of_nonneg (by omega)];rfl)),by omega⟩,by simp only[Zm52_2];omega⟩
 ·have hc:a.length≤i:=by have hc:=of_decide_eq_false hc;omega
  rw[mk_done markTimer cntTimer a k hc,ct_done cntTimer a hc]
  exact⟨rfl,rfl⟩
def Zh52:HH:=⟨_,Zo52⟩
def Zk59:Con UU where
 α:=(List DTimer)×Int
 md:=[.ro,.ro]
 of:=oC (oL .eTimer) (o1 oI)
 ds:=fun x=>[dL .eTimer x.1,dI x.2]
 pre:=fun(a,k)=>[0≤k,k+cntTimerS a≤4611686018427387904]
 res:=fun(a,k)=>⟨[.one (.lit (.int .i64 (if markTimerS a k=a then k+cntTimerS a else-1)))],true,[]⟩
 law:=lC (lL .eTimer) (l1 lI)
def Zi59_2(a:(List DTimer))(k:Int):Int×Int×Unit→Prop:=fun(kk,i,_)=>0≤i∧i≤a.length∧kk=k+ctS cntTimer (a.take i.toNat)∧(mkS markTimer cntTimer (a.drop i.toNat) kk=a.drop i.toNat↔mkS markTimer cntTimer a k=a)
def Zm59_2(a:(List DTimer))(k:Int):Int×Int×Unit→Nat:=fun(kk,i,_)=>a.length-i.toNat
def Za59:Zk59.α→Nat→Option (Ann UU):=fun(a,k)=>annL [(2,annOf [.slot 1 (1,1024) (.lit (.int .i64)),.slot 5 (5,1024) (.lit (.int .i64))] (fun _=>Zi59_2 a k) (Zm59_2 a k))]
def Zu59:=us [Zh45,Zh99]
theorem Zv59(a:(List DTimer))(k:Int):goal EE Zu59 Go.Proofs.Tryz.f59 Zk59 Za59 (a,k)=(Zi59_2 a k (k,(0:Int),())∧
 ∀(y:Int×Int×PUnit),
  let x4:Nat:=Int.toNat y.2.1;
  let x6:Int:=IntKind.wrap IntKind.i64 (y.1+(1:Int));
  let x3:DTimer:=List.getD a x4 zTimer;
  let x5:Int:=IntKind.wrap IntKind.i64 (x6+(1:Int));
  let x2:DFact:=x3.F;
  let x1:List DVal:=x2.Fields;
  let x0:Int:=if markValS x1 x5=x1 then x5+(↑(cntValS x1):Int) else(-1:Int);
  Zi59_2 a k y→bif decide (y.2.1<(↑(List.length a):Int)) then(0:Int)≤y.2.1∧x4<List.length a∧bif x3.At !=y.1 then Lf [DV.one (Cell.lit (Value.int IntKind.i64 (-1:Int)))] [DV.one (Cell.lit (Value.int IntKind.i64 (if markTimerS a k=a then k+(↑(cntTimerS a):Int) else(-1:Int))))] else(0:Int)≤y.2.1∧x4<List.length a∧x6≤(4611686018427387903:Int)∧bif !ByteArray.toList x2.Kind==ByteArray.toList (markText x6) then Lf [DV.one (Cell.lit (Value.int IntKind.i64 (-1:Int)))] [DV.one (Cell.lit (Value.int IntKind.i64 (if markTimerS a k=a then k+(↑(cntTimerS a):Int) else(-1:Int))))] else(0:Int)≤y.2.1∧x4<List.length a∧(0:Int)≤x5∧x5+(↑(cntValS x1):Int)≤(4611686018427387904:Int)∧bif decide (x0<(0:Int)) then Lf [DV.one (Cell.lit (Value.int IntKind.i64 (-1:Int)))] [DV.one (Cell.lit (Value.int IntKind.i64 (if markTimerS a k=a then k+(↑(cntTimerS a):Int) else(-1:Int))))] else Zi59_2 a k (x0,IntKind.wrap IntKind.i64 (y.2.1+(1:Int)),PUnit.unit)∧Zm59_2 a k (x0,IntKind.wrap IntKind.i64 (y.2.1+(1:Int)),PUnit.unit)<Zm59_2 a k y else Lf [DV.one (Cell.lit (Value.int IntKind.i64 y.1))] [DV.one (Cell.lit (Value.int IntKind.i64 (if markTimerS a k=a then k+(↑(cntTimerS a):Int) else(-1:Int))))]):=by kernel_rfl
theorem Zo59:Holds EE (59,Zk59):=by
 refine holds_of EE_ok Go.Proofs.Tryz.func59 Zk59 (by kernel_rfl) Zu59 (us_ok _) Za59 (fun x hp hb=> ?_)
 obtain⟨a,k⟩:=x
 have hl_a:a.length≤9223372036854775807:=bdL (hb _ m0)
 have hl_k:=bdI (n:=k) (hb _ m1)
 have hp0:0≤k:=hp _ m0
 have hp1:k+cntTimerS a≤4611686018427387904:=hp _ m1
 clear hp hb
 rw[Zv59 a k]
 dsimp only
 refine⟨⟨by omega,by omega,by simp[ctS],by simp⟩,?_⟩
 rintro⟨kk,i,⟨⟩⟩ ⟨h1,h2,hkk,hR⟩
 simp only
 simp only[markTimerS]
 refine if_cond (fun hc=> ?_) (fun hc=> ?_)
 ·have hc:i<a.length:=by have hc:=of_decide_eq_true hc;omega
  have hct:=ctS_take cntTimer a zTimer h1 hc
  have hle:=ctS_take_le cntTimer a (i+1).toNat
  have hq:(cntTimerS a:Int)=ctS cntTimer a:=rfl
  rw[drop_step a zTimer h1 hc] at hR
  generalize List.getD a i.toNat zTimer=x at*
  simp only[mkS,List.cons.injEq] at hR
  have e:kk+(cntTimer x:Int)=kk+1+1+(cntValS x.F.Fields:Int):=by first|(simp only[cntTimer];done)|(simp only[cntTimer];omega)
  rw[e] at hR
  simp only[markTimer,cntTimer] at hR hct
  simp(disch:=omega) only[wrap_i64,bne_int,toList_beq]
  obtain⟨x_At,⟨x_F_Kind,x_F_Fields⟩⟩:=x
  simp only[DFact.mk.injEq,DTimer.mk.injEq] at*
  repeat' (first|refine And.intro (by omega) ?_|fail)
  refine if_cond (fun h=>Lf_no (fun hh=> ?_)) (fun h=> ?_)
  ·have hh:=hR.2 hh;simp_all
  have h:x_At=kk:=by simpa using h
  subst x_At
  repeat' (first|refine And.intro (by omega) ?_|fail)
  refine if_cond (fun h=>Lf_no (fun hh=> ?_)) (fun h=> ?_)
  ·have hh:=hR.2 hh;simp_all
  have h:x_F_Kind=markText (kk+1):=by simpa using h
  subst x_F_Kind
  repeat' (first|refine And.intro (by omega) ?_|fail)
  by_cases hm:markValS x_F_Fields (kk+1+1)=x_F_Fields
  rotate_left
  ·simp only[if_neg hm];rw[cond_yes (by decide)]
   exact Lf_no (fun hh=>hm (by have hh:=hR.2 hh;simp_all))
  simp only[if_pos hm]
  refine if_cond (fun h=>absurd (of_decide_eq_true h) (by omega)) (fun h=> ?_)
  simp only[hm] at hR
  clear hm
  exact⟨⟨by omega,by omega,by omega,by simpa using hR⟩,by simp only[Zm59_2];omega⟩
 ·have hc:a.length≤i:=by have hc:=of_decide_eq_false hc;omega
  rw[drop_end a hc] at hR
  exact Lf_yes (hR.1 rfl) (by rw[hkk,ct_done _ _ hc];rfl)
def Zh59:HH:=⟨_,Zo59⟩
def Zk81:Con UU where
 α:=DTask×DTask
 md:=[.ro,.ro]
 of:=oC (oA .eTask) (o1 (oA .eTask))
 ds:=fun x=>[dA .eTask x.1,dA .eTask x.2]
 pre:=fun _=>[]
 res:=fun(a,b)=>⟨[.one (.lit (.bool (decide (a=b))))],true,[]⟩
 law:=lC (lA .eTask) (l1 (lA .eTask))
def Za81:Zk81.α→Nat→Option (Ann UU):=fun(a,b)=>annL []
def Zu81:=us [Zh130,Zh131]
theorem Zv81(a:DTask)(b:DTask):goal EE Zu81 Go.Proofs.Tryz.f81 Zk81 Za81 (a,b)=(bif !decide (a.F=b.F) then Lb false (decide (a=b)) else bif !ByteArray.toList a.Undo==ByteArray.toList b.Undo then Lb false (decide (a=b)) else bif a.State !=b.State then Lb false (decide (a=b)) else bif a.Tries !=b.Tries then Lb false (decide (a=b)) else bif a.Due !=b.Due then Lb false (decide (a=b)) else bif !decide (a.V=b.V) then Lb false (decide (a=b)) else Lb true (decide (a=b))):=by kernel_rfl
theorem Zo81:Holds EE (81,Zk81):=by
 refine holds_of EE_ok Go.Proofs.Tryz.func81 Zk81 (by kernel_rfl) Zu81 (us_ok _) Za81 (fun x hp hb=> ?_)
 obtain⟨a,b⟩:=x
 have hz0:=bd_eTask (x:=a) (hb _ m0)
 have hl_a_F_Kind:=hz0.1
 have hl_a_F_Fields:=hz0.2.1
 have hl_a_Undo:=hz0.2.2.1
 have hl_a_V_S:=hz0.2.2.2
 have hz1:=bd_eTask (x:=b) (hb _ m1)
 have hl_b_F_Kind:=hz1.1
 have hl_b_F_Fields:=hz1.2.1
 have hl_b_Undo:=hz1.2.2.1
 have hl_b_V_S:=hz1.2.2.2
 clear hp hb
 rw[Zv81 a b]
 obtain⟨aF,aUndo,aState,aTries,aDue,aV⟩:=a
 obtain⟨bF,bUndo,bState,bTries,bDue,bV⟩:=b
 repeat' (apply if_cond<;>intro _)
 all_goals (first|apply Lf_t|apply Lf_f)<;>simp_all
def Zh81:HH:=⟨_,Zo81⟩
def Zk39:Con UU where
 α:=(List DTask)×(List DTask)
 md:=[.ro,.ro]
 of:=oC (oL .eTask) (o1 (oL .eTask))
 ds:=fun x=>[dL .eTask x.1,dL .eTask x.2]
 pre:=fun _=>[]
 res:=fun(a,b)=>⟨[.one (.lit (.bool (decide (a=b))))],true,[]⟩
 law:=lC (lL .eTask) (l1 (lL .eTask))
def Zi39_4(a:(List DTask))(b:(List DTask)):Int×Unit→Prop:=eqI a b
def Zm39_4(a:(List DTask))(b:(List DTask)):Int×Unit→Nat:=rM1 a
def Za39:Zk39.α→Nat→Option (Ann UU):=fun(a,b)=>annL [(4,annOf [.slot 5 (5,1024) (.lit (.int .i64))] (fun _=>Zi39_4 a b) (Zm39_4 a b))]
def Zu39:=us [Zh81]
theorem Zv39(a:(List DTask))(b:(List DTask)):goal EE Zu39 Go.Proofs.Tryz.f39 Zk39 Za39 (a,b)=(eqV zTask a b):=by kernel_rfl
theorem Zo39:Holds EE (39,Zk39):=by
 refine holds_of EE_ok Go.Proofs.Tryz.func39 Zk39 (by kernel_rfl) Zu39 (us_ok _) Za39 (fun x hp hb=> ?_)
 obtain⟨a,b⟩:=x
 have hl_a:a.length≤9223372036854775807:=bdL (hb _ m0)
 have hl_b:b.length≤9223372036854775807:=bdL (hb _ m1)
 clear hp hb
 rw[Zv39 a b]
 exact eqV_ok hl_a
def Zh39:HH:=⟨_,Zo39⟩
def Zk51:Con UU where
 α:=(List DTask)×Int
 md:=[.wr,.ro]
 of:=oC (oL .eTask) (o1 oI)
 ds:=fun x=>[dL .eTask x.1,dI x.2]
 pre:=fun(a,k)=>[0≤k,k+cntTaskS a≤4611686018427387904]
 res:=fun(a,k)=>⟨[.one (.lit (.int .i64 (k+cntTaskS a)))],true,[.one (.sl .eTask (markTaskS a k))]⟩
 law:=lC (lL .eTask) (l1 lI)
def Zi51_2(a:(List DTask))(k:Int):List DTask×Int×Int×Unit→Prop:=fun(row,kk,i,_)=>0≤i∧i≤a.length∧row=(mkS markTask cntTask a k).take i.toNat++a.drop i.toNat∧kk=k+ctS cntTask (a.take i.toNat)
def Zm51_2(a:(List DTask))(k:Int):List DTask×Int×Int×Unit→Nat:=fun(row,kk,i,_)=>a.length-i.toNat
def Za51:Zk51.α→Nat→Option (Ann UU):=fun(a,k)=>annL [(2,annOf [.slot 0 (2000000,0) (.own .eTask true),.slot 1 (1,1024) (.lit (.int .i64)),.slot 5 (5,1024) (.lit (.int .i64))] (fun _=>Zi51_2 a k) (Zm51_2 a k))]
def Zu51:=us [Zh45,Zh94]
theorem Zv51(a:(List DTask))(k:Int):goal EE Zu51 Go.Proofs.Tryz.f51 Zk51 Za51 (a,k)=(Zi51_2 a k (a,k,(0:Int),())∧
 ∀(y:List DTask×Int×Int×PUnit),
  let x4:Nat:=Int.toNat y.2.2.1;
  let x9:List DTask:=List.modify y.1 x4 fun(x:DTask)=>{F:={Kind:=markText y.2.1,Fields:=x.F.Fields:DFact},Undo:=x.Undo,State:=x.State,Tries:=x.Tries,Due:=x.Due,V:=x.V:DTask};
  let x10:Int:=IntKind.wrap IntKind.i64 (y.2.1+(1:Int));
  let x6:Int:=x10+(↑(cntValS (List.getD x9 x4 zTask).F.Fields):Int);
  let x8:List DTask:=List.modify x9 x4 fun(x:DTask)=>{F:={Kind:=x.F.Kind,Fields:=markValS (List.getD x9 x4 zTask).F.Fields x10:DFact},Undo:=x.Undo,State:=x.State,Tries:=x.Tries,Due:=x.Due,V:=x.V:DTask};
  let x15:Int:=IntKind.wrap IntKind.i64 (IntKind.wrap IntKind.i64 (x6+(1:Int))+(1:Int));
  let x7:List DTask:=List.modify x8 x4 fun(x:DTask)=>{F:=x.F,Undo:=markText x6,State:=x.State,Tries:=x.Tries,Due:=x.Due,V:=x.V:DTask};
  let x14:Int:=IntKind.wrap IntKind.i64 (x15+(1:Int));
  let x5:List DTask:=List.modify x7 x4 fun(x:DTask)=>{F:=x.F,Undo:=x.Undo,State:=IntKind.wrap IntKind.i64 (x6+(1:Int)),Tries:=x.Tries,Due:=x.Due,V:=x.V:DTask};
  let x13:Int:=IntKind.wrap IntKind.i64 (x14+(1:Int));
  let x3:List DTask:=List.modify x5 x4 fun(x:DTask)=>{F:=x.F,Undo:=x.Undo,State:=x.State,Tries:=x15,Due:=x.Due,V:=x.V:DTask};
  let x12:Int:=IntKind.wrap IntKind.i64 (x13+(1:Int));
  let x2:List DTask:=List.modify x3 x4 fun(x:DTask)=>{F:=x.F,Undo:=x.Undo,State:=x.State,Tries:=x.Tries,Due:=x14,V:=x.V:DTask};
  let x11:Int:=IntKind.wrap IntKind.i64 (x12+(1:Int));
  let x1:List DTask:=List.modify x2 x4 fun(x:DTask)=>{F:=x.F,Undo:=x.Undo,State:=x.State,Tries:=x.Tries,Due:=x.Due,V:={K:=x13,N:=x.V.N,S:=x.V.S:DVal}:DTask};
  let x0:List DTask:=List.modify x1 x4 fun(x:DTask)=>{F:=x.F,Undo:=x.Undo,State:=x.State,Tries:=x.Tries,Due:=x.Due,V:={K:=x.V.K,N:=x12,S:=x.V.S:DVal}:DTask};
  Zi51_2 a k y→bif decide (y.2.2.1<(↑(List.length y.1):Int)) then y.2.1≤(4611686018427387903:Int)∧(0:Int)≤y.2.2.1∧x4<List.length y.1∧x4<List.length y.1∧(0:Int)≤y.2.2.1∧x4<List.length x9∧x4<List.length x9∧x4<List.length x9∧(0:Int)≤x10∧x6≤(4611686018427387904:Int)∧x6≤(4611686018427387903:Int)∧(0:Int)≤y.2.2.1∧x4<List.length x8∧x4<List.length x8∧(0:Int)≤y.2.2.1∧x4<List.length x7∧x4<List.length x7∧(0:Int)≤y.2.2.1∧x4<List.length x5∧x4<List.length x5∧(0:Int)≤y.2.2.1∧x4<List.length x3∧x4<List.length x3∧(0:Int)≤y.2.2.1∧x4<List.length x2∧x4<List.length x2∧(0:Int)≤y.2.2.1∧x4<List.length x1∧x4<List.length x1∧x11≤(4611686018427387903:Int)∧(0:Int)≤y.2.2.1∧x4<List.length x0∧x4<List.length x0∧Zi51_2 a k (List.modify x0 x4 fun(x:DTask)=>{F:=x.F,Undo:=x.Undo,State:=x.State,Tries:=x.Tries,Due:=x.Due,V:={K:=x.V.K,N:=x.V.N,S:=markText x11:DVal}:DTask},IntKind.wrap IntKind.i64 (x11+(1:Int)),IntKind.wrap IntKind.i64 (y.2.2.1+(1:Int)),PUnit.unit)∧Zm51_2 a k (List.modify x0 x4 fun(x:DTask)=>{F:=x.F,Undo:=x.Undo,State:=x.State,Tries:=x.Tries,Due:=x.Due,V:={K:=x.V.K,N:=x.V.N,S:=markText x11:DVal}:DTask},IntKind.wrap IntKind.i64 (x11+(1:Int)),IntKind.wrap IntKind.i64 (y.2.2.1+(1:Int)),PUnit.unit)<Zm51_2 a k y else asD [DV.one (Cell.lit (Value.int IntKind.i64 y.2.1))]=asD [DV.one (Cell.lit (Value.int IntKind.i64 (k+(↑(cntTaskS a):Int))))]∧asD [DV.one (Cell.sl Cd.eTask y.1)]=asD [DV.one (Cell.sl Cd.eTask (markTaskS a k))]):=by kernel_rfl
theorem Zo51:Holds EE (51,Zk51):=by
 refine holds_of EE_ok Go.Proofs.Tryz.func51 Zk51 (by kernel_rfl) Zu51 (us_ok _) Za51 (fun x hp hb=> ?_)
 obtain⟨a,k⟩:=x
 have hl_a:a.length≤9223372036854775807:=bdL (hb _ m0)
 have hl_k:=bdI (n:=k) (hb _ m1)
 have hp0:0≤k:=hp _ m0
 have hp1:k+cntTaskS a≤4611686018427387904:=hp _ m1
 clear hp hb
 rw[Zv51 a k]
 dsimp only
 refine⟨⟨by omega,by omega,by simp,by simp[ctS]⟩,?_⟩
 rintro⟨row,kk,i,⟨⟩⟩ ⟨h1,h2,rfl,rfl⟩
 simp only
 have hl:=mk_rl markTask cntTask a k h1 h2
 refine if_cond (fun hc=> ?_) (fun hc=> ?_)
 ·have hc:i<a.length:=by have hc:=of_decide_eq_true hc;omega
  have hct:=ctS_take cntTask a zTask h1 hc
  have hle:=ctS_take_le cntTask a (i+1).toNat
  have hg:=mk_getD _ a zTask (mk_tl markTask cntTask a k h1 h2) h1 hc
  have hM:=fun F hF=>mkS_mod markTask cntTask a zTask k (i:=i) F h1 hc hF
  have hq:(cntTaskS a:Int)=ctS cntTask a:=rfl
  generalize List.getD a i.toNat zTask=x at*
  generalize hkk:k+(ctS cntTask (a.take i.toNat):Int)=kk at*
  generalize List.take i.toNat (mkS markTask cntTask a k)++List.drop i.toNat a=R at*
  simp only[cntTask] at hct
  simp(disch:=first|omega|(simp only[List.length_modify];omega)) only[List.length_modify,wrap_i64,getD_modify,modify_modify,hg,hl]
  repeat' (first|refine And.intro (by omega) ?_|fail)
  exact⟨⟨by omega,by omega,hM _ (by first|rfl|(simp only[markTask,markBool];rw[Int.tmod_eq_emod_of_nonneg (by omega)];rfl)),by omega⟩,by simp only[Zm51_2];omega⟩
 ·have hc:a.length≤i:=by have hc:=of_decide_eq_false hc;omega
  rw[mk_done markTask cntTask a k hc,ct_done cntTask a hc]
  exact⟨rfl,rfl⟩
def Zh51:HH:=⟨_,Zo51⟩
def Zk58:Con UU where
 α:=(List DTask)×Int
 md:=[.ro,.ro]
 of:=oC (oL .eTask) (o1 oI)
 ds:=fun x=>[dL .eTask x.1,dI x.2]
 pre:=fun(a,k)=>[0≤k,k+cntTaskS a≤4611686018427387904]
 res:=fun(a,k)=>⟨[.one (.lit (.int .i64 (if markTaskS a k=a then k+cntTaskS a else-1)))],true,[]⟩
 law:=lC (lL .eTask) (l1 lI)
def Zi58_2(a:(List DTask))(k:Int):Int×Int×Unit→Prop:=fun(kk,i,_)=>0≤i∧i≤a.length∧kk=k+ctS cntTask (a.take i.toNat)∧(mkS markTask cntTask (a.drop i.toNat) kk=a.drop i.toNat↔mkS markTask cntTask a k=a)
def Zm58_2(a:(List DTask))(k:Int):Int×Int×Unit→Nat:=fun(kk,i,_)=>a.length-i.toNat
def Za58:Zk58.α→Nat→Option (Ann UU):=fun(a,k)=>annL [(2,annOf [.slot 1 (1,1024) (.lit (.int .i64)),.slot 5 (5,1024) (.lit (.int .i64))] (fun _=>Zi58_2 a k) (Zm58_2 a k))]
def Zu58:=us [Zh45,Zh99]
theorem Zv58(a:(List DTask))(k:Int):goal EE Zu58 Go.Proofs.Tryz.f58 Zk58 Za58 (a,k)=(Zi58_2 a k (k,(0:Int),())∧
 ∀(y:Int×Int×PUnit),
  let x3:Nat:=Int.toNat y.2.1;
  let x8:Int:=IntKind.wrap IntKind.i64 (y.1+(1:Int));
  let x1:DTask:=List.getD a x3 zTask;
  let x7:Int:=x8+(↑(cntValS x1.F.Fields):Int);
  let x0:Int:=if markValS x1.F.Fields x8=x1.F.Fields then x7 else(-1:Int);
  let x9:Int:=IntKind.wrap IntKind.i64 (IntKind.wrap IntKind.i64 (x0+(1:Int))+(1:Int));
  let x6:Int:=IntKind.wrap IntKind.i64 (x9+(1:Int));
  let x5:Int:=IntKind.wrap IntKind.i64 (x6+(1:Int));
  let x4:Int:=IntKind.wrap IntKind.i64 (x5+(1:Int));
  let x2:Int:=IntKind.wrap IntKind.i64 (x4+(1:Int));
  Zi58_2 a k y→bif decide (y.2.1<(↑(List.length a):Int)) then(0:Int)≤y.2.1∧x3<List.length a∧y.1≤(4611686018427387903:Int)∧bif !ByteArray.toList x1.F.Kind==ByteArray.toList (markText y.1) then Lf [DV.one (Cell.lit (Value.int IntKind.i64 (-1:Int)))] [DV.one (Cell.lit (Value.int IntKind.i64 (if markTaskS a k=a then k+(↑(cntTaskS a):Int) else(-1:Int))))] else(0:Int)≤y.2.1∧x3<List.length a∧(0:Int)≤x8∧x7≤(4611686018427387904:Int)∧bif decide (x0<(0:Int)) then Lf [DV.one (Cell.lit (Value.int IntKind.i64 (-1:Int)))] [DV.one (Cell.lit (Value.int IntKind.i64 (if markTaskS a k=a then k+(↑(cntTaskS a):Int) else(-1:Int))))] else(0:Int)≤y.2.1∧x3<List.length a∧x0≤(4611686018427387903:Int)∧bif !ByteArray.toList x1.Undo==ByteArray.toList (markText x0) then Lf [DV.one (Cell.lit (Value.int IntKind.i64 (-1:Int)))] [DV.one (Cell.lit (Value.int IntKind.i64 (if markTaskS a k=a then k+(↑(cntTaskS a):Int) else(-1:Int))))] else(0:Int)≤y.2.1∧x3<List.length a∧bif x1.State !=IntKind.wrap IntKind.i64 (x0+(1:Int)) then Lf [DV.one (Cell.lit (Value.int IntKind.i64 (-1:Int)))] [DV.one (Cell.lit (Value.int IntKind.i64 (if markTaskS a k=a then k+(↑(cntTaskS a):Int) else(-1:Int))))] else(0:Int)≤y.2.1∧x3<List.length a∧bif x1.Tries !=x9 then Lf [DV.one (Cell.lit (Value.int IntKind.i64 (-1:Int)))] [DV.one (Cell.lit (Value.int IntKind.i64 (if markTaskS a k=a then k+(↑(cntTaskS a):Int) else(-1:Int))))] else(0:Int)≤y.2.1∧x3<List.length a∧bif x1.Due !=x6 then Lf [DV.one (Cell.lit (Value.int IntKind.i64 (-1:Int)))] [DV.one (Cell.lit (Value.int IntKind.i64 (if markTaskS a k=a then k+(↑(cntTaskS a):Int) else(-1:Int))))] else(0:Int)≤y.2.1∧x3<List.length a∧bif x1.V.K !=x5 then Lf [DV.one (Cell.lit (Value.int IntKind.i64 (-1:Int)))] [DV.one (Cell.lit (Value.int IntKind.i64 (if markTaskS a k=a then k+(↑(cntTaskS a):Int) else(-1:Int))))] else(0:Int)≤y.2.1∧x3<List.length a∧bif x1.V.N !=x4 then Lf [DV.one (Cell.lit (Value.int IntKind.i64 (-1:Int)))] [DV.one (Cell.lit (Value.int IntKind.i64 (if markTaskS a k=a then k+(↑(cntTaskS a):Int) else(-1:Int))))] else(0:Int)≤y.2.1∧x3<List.length a∧x2≤(4611686018427387903:Int)∧bif !ByteArray.toList x1.V.S==ByteArray.toList (markText x2) then Lf [DV.one (Cell.lit (Value.int IntKind.i64 (-1:Int)))] [DV.one (Cell.lit (Value.int IntKind.i64 (if markTaskS a k=a then k+(↑(cntTaskS a):Int) else(-1:Int))))] else Zi58_2 a k (IntKind.wrap IntKind.i64 (x2+(1:Int)),IntKind.wrap IntKind.i64 (y.2.1+(1:Int)),PUnit.unit)∧Zm58_2 a k (IntKind.wrap IntKind.i64 (x2+(1:Int)),IntKind.wrap IntKind.i64 (y.2.1+(1:Int)),PUnit.unit)<Zm58_2 a k y else Lf [DV.one (Cell.lit (Value.int IntKind.i64 y.1))] [DV.one (Cell.lit (Value.int IntKind.i64 (if markTaskS a k=a then k+(↑(cntTaskS a):Int) else(-1:Int))))]):=by kernel_rfl
theorem Zo58:Holds EE (58,Zk58):=by
 refine holds_of EE_ok Go.Proofs.Tryz.func58 Zk58 (by kernel_rfl) Zu58 (us_ok _) Za58 (fun x hp hb=> ?_)
 obtain⟨a,k⟩:=x
 have hl_a:a.length≤9223372036854775807:=bdL (hb _ m0)
 have hl_k:=bdI (n:=k) (hb _ m1)
 have hp0:0≤k:=hp _ m0
 have hp1:k+cntTaskS a≤4611686018427387904:=hp _ m1
 clear hp hb
 rw[Zv58 a k]
 dsimp only
 refine⟨⟨by omega,by omega,by simp[ctS],by simp⟩,?_⟩
 rintro⟨kk,i,⟨⟩⟩ ⟨h1,h2,hkk,hR⟩
 simp only
 simp only[markTaskS]
 refine if_cond (fun hc=> ?_) (fun hc=> ?_)
 ·have hc:i<a.length:=by have hc:=of_decide_eq_true hc;omega
  have hct:=ctS_take cntTask a zTask h1 hc
  have hle:=ctS_take_le cntTask a (i+1).toNat
  have hq:(cntTaskS a:Int)=ctS cntTask a:=rfl
  rw[drop_step a zTask h1 hc] at hR
  generalize List.getD a i.toNat zTask=x at*
  simp only[mkS,List.cons.injEq] at hR
  have e:kk+(cntTask x:Int)=kk+1+(cntValS x.F.Fields:Int)+1+1+1+1+1+1+1:=by first|(simp only[cntTask];done)|(simp only[cntTask];omega)
  rw[e] at hR
  simp only[markTask,cntTask] at hR hct
  simp(disch:=omega) only[wrap_i64,bne_int,toList_beq]
  obtain⟨⟨x_F_Kind,x_F_Fields⟩,x_Undo,x_State,x_Tries,x_Due,⟨x_V_K,x_V_N,x_V_S⟩⟩:=x
  simp only[DFact.mk.injEq,DTask.mk.injEq,DVal.mk.injEq] at*
  repeat' (first|refine And.intro (by omega) ?_|fail)
  refine if_cond (fun h=>Lf_no (fun hh=> ?_)) (fun h=> ?_)
  ·have hh:=hR.2 hh;simp_all
  have h:x_F_Kind=markText (kk):=by simpa using h
  subst x_F_Kind
  repeat' (first|refine And.intro (by omega) ?_|fail)
  by_cases hm:markValS x_F_Fields (kk+1)=x_F_Fields
  rotate_left
  ·simp only[if_neg hm];rw[cond_yes (by decide)]
   exact Lf_no (fun hh=>hm (by have hh:=hR.2 hh;simp_all))
  simp only[if_pos hm]
  refine if_cond (fun h=>absurd (of_decide_eq_true h) (by omega)) (fun h=> ?_)
  simp only[hm] at hR
  clear hm
  repeat' (first|refine And.intro (by omega) ?_|fail)
  refine if_cond (fun h=>Lf_no (fun hh=> ?_)) (fun h=> ?_)
  ·have hh:=hR.2 hh;simp_all
  have h:x_Undo=markText (kk+1+cntValS x_F_Fields):=by simpa using h
  subst x_Undo
  repeat' (first|refine And.intro (by omega) ?_|fail)
  refine if_cond (fun h=>Lf_no (fun hh=> ?_)) (fun h=> ?_)
  ·have hh:=hR.2 hh;simp_all
  have h:x_State=kk+1+cntValS x_F_Fields+1:=by simpa using h
  subst x_State
  repeat' (first|refine And.intro (by omega) ?_|fail)
  refine if_cond (fun h=>Lf_no (fun hh=> ?_)) (fun h=> ?_)
  ·have hh:=hR.2 hh;simp_all
  have h:x_Tries=kk+1+cntValS x_F_Fields+1+1:=by simpa using h
  subst x_Tries
  repeat' (first|refine And.intro (by omega) ?_|fail)
  refine if_cond (fun h=>Lf_no (fun hh=> ?_)) (fun h=> ?_)
  ·have hh:=hR.2 hh;simp_all
  have h:x_Due=kk+1+cntValS x_F_Fields+1+1+1:=by simpa using h
  subst x_Due
  repeat' (first|refine And.intro (by omega) ?_|fail)
  refine if_cond (fun h=>Lf_no (fun hh=> ?_)) (fun h=> ?_)
  ·have hh:=hR.2 hh;simp_all
  have h:x_V_K=kk+1+cntValS x_F_Fields+1+1+1+1:=by simpa using h
  subst x_V_K
  repeat' (first|refine And.intro (by omega) ?_|fail)
  refine if_cond (fun h=>Lf_no (fun hh=> ?_)) (fun h=> ?_)
  ·have hh:=hR.2 hh;simp_all
  have h:x_V_N=kk+1+cntValS x_F_Fields+1+1+1+1+1:=by simpa using h
  subst x_V_N
  repeat' (first|refine And.intro (by omega) ?_|fail)
  refine if_cond (fun h=>Lf_no (fun hh=> ?_)) (fun h=> ?_)
  ·have hh:=hR.2 hh;simp_all
  have h:x_V_S=markText (kk+1+cntValS x_F_Fields+1+1+1+1+1+1):=by simpa using h
  subst x_V_S
  exact⟨⟨by omega,by omega,by omega,by simpa using hR⟩,by simp only[Zm58_2];omega⟩
 ·have hc:a.length≤i:=by have hc:=of_decide_eq_false hc;omega
  rw[drop_end a hc] at hR
  exact Lf_yes (hR.1 rfl) (by rw[hkk,ct_done _ _ hc];rfl)
def Zh58:HH:=⟨_,Zo58⟩
def Zk83:Con UU where
 α:=DUndo×DUndo
 md:=[.ro,.ro]
 of:=oC (oA .eUndo) (o1 (oA .eUndo))
 ds:=fun x=>[dA .eUndo x.1,dA .eUndo x.2]
 pre:=fun _=>[]
 res:=fun(a,b)=>⟨[.one (.lit (.bool (decide (a=b))))],true,[]⟩
 law:=lC (lA .eUndo) (l1 (lA .eUndo))
def Za83:Zk83.α→Nat→Option (Ann UU):=fun(a,b)=>annL []
def Zu83:=us [Zh130]
theorem Zv83(a:DUndo)(b:DUndo):goal EE Zu83 Go.Proofs.Tryz.f83 Zk83 Za83 (a,b)=(bif !ByteArray.toList a.Key==ByteArray.toList b.Key then Lb false (decide (a=b)) else bif !decide (a.F=b.F) then Lb false (decide (a=b)) else Lb true (decide (a=b))):=by kernel_rfl
theorem Zo83:Holds EE (83,Zk83):=by
 refine holds_of EE_ok Go.Proofs.Tryz.func83 Zk83 (by kernel_rfl) Zu83 (us_ok _) Za83 (fun x hp hb=> ?_)
 obtain⟨a,b⟩:=x
 have hz0:=bd_eUndo (x:=a) (hb _ m0)
 have hl_a_Key:=hz0.1
 have hl_a_F_Kind:=hz0.2.1
 have hl_a_F_Fields:=hz0.2.2
 have hz1:=bd_eUndo (x:=b) (hb _ m1)
 have hl_b_Key:=hz1.1
 have hl_b_F_Kind:=hz1.2.1
 have hl_b_F_Fields:=hz1.2.2
 clear hp hb
 rw[Zv83 a b]
 obtain⟨aKey,aF⟩:=a
 obtain⟨bKey,bF⟩:=b
 repeat' (apply if_cond<;>intro _)
 all_goals (first|apply Lf_t|apply Lf_f)<;>simp_all
def Zh83:HH:=⟨_,Zo83⟩
def Zk41:Con UU where
 α:=(List DUndo)×(List DUndo)
 md:=[.ro,.ro]
 of:=oC (oL .eUndo) (o1 (oL .eUndo))
 ds:=fun x=>[dL .eUndo x.1,dL .eUndo x.2]
 pre:=fun _=>[]
 res:=fun(a,b)=>⟨[.one (.lit (.bool (decide (a=b))))],true,[]⟩
 law:=lC (lL .eUndo) (l1 (lL .eUndo))
def Zi41_4(a:(List DUndo))(b:(List DUndo)):Int×Unit→Prop:=eqI a b
def Zm41_4(a:(List DUndo))(b:(List DUndo)):Int×Unit→Nat:=rM1 a
def Za41:Zk41.α→Nat→Option (Ann UU):=fun(a,b)=>annL [(4,annOf [.slot 5 (5,1024) (.lit (.int .i64))] (fun _=>Zi41_4 a b) (Zm41_4 a b))]
def Zu41:=us [Zh83]
theorem Zv41(a:(List DUndo))(b:(List DUndo)):goal EE Zu41 Go.Proofs.Tryz.f41 Zk41 Za41 (a,b)=(eqV zUndo a b):=by kernel_rfl
theorem Zo41:Holds EE (41,Zk41):=by
 refine holds_of EE_ok Go.Proofs.Tryz.func41 Zk41 (by kernel_rfl) Zu41 (us_ok _) Za41 (fun x hp hb=> ?_)
 obtain⟨a,b⟩:=x
 have hl_a:a.length≤9223372036854775807:=bdL (hb _ m0)
 have hl_b:b.length≤9223372036854775807:=bdL (hb _ m1)
 clear hp hb
 rw[Zv41 a b]
 exact eqV_ok hl_a
def Zh41:HH:=⟨_,Zo41⟩
def Zk53:Con UU where
 α:=(List DUndo)×Int
 md:=[.wr,.ro]
 of:=oC (oL .eUndo) (o1 oI)
 ds:=fun x=>[dL .eUndo x.1,dI x.2]
 pre:=fun(a,k)=>[0≤k,k+cntUndoS a≤4611686018427387904]
 res:=fun(a,k)=>⟨[.one (.lit (.int .i64 (k+cntUndoS a)))],true,[.one (.sl .eUndo (markUndoS a k))]⟩
 law:=lC (lL .eUndo) (l1 lI)
def Zi53_2(a:(List DUndo))(k:Int):List DUndo×Int×Int×Unit→Prop:=fun(row,kk,i,_)=>0≤i∧i≤a.length∧row=(mkS markUndo cntUndo a k).take i.toNat++a.drop i.toNat∧kk=k+ctS cntUndo (a.take i.toNat)
def Zm53_2(a:(List DUndo))(k:Int):List DUndo×Int×Int×Unit→Nat:=fun(row,kk,i,_)=>a.length-i.toNat
def Za53:Zk53.α→Nat→Option (Ann UU):=fun(a,k)=>annL [(2,annOf [.slot 0 (2000000,0) (.own .eUndo true),.slot 1 (1,1024) (.lit (.int .i64)),.slot 5 (5,1024) (.lit (.int .i64))] (fun _=>Zi53_2 a k) (Zm53_2 a k))]
def Zu53:=us [Zh45,Zh94]
theorem Zv53(a:(List DUndo))(k:Int):goal EE Zu53 Go.Proofs.Tryz.f53 Zk53 Za53 (a,k)=(Zi53_2 a k (a,k,(0:Int),())∧
 ∀(y:List DUndo×Int×Int×PUnit),
  let x1:Nat:=Int.toNat y.2.2.1;
  let x3:Int:=IntKind.wrap IntKind.i64 (y.2.1+(1:Int));
  let x4:List DUndo:=List.modify y.1 x1 fun(x:DUndo)=>{Key:=markText y.2.1,F:=x.F:DUndo};
  let x0:List DUndo:=List.modify x4 x1 fun(x:DUndo)=>{Key:=x.Key,F:={Kind:=markText x3,Fields:=x.F.Fields:DFact}:DUndo};
  let x2:Int:=IntKind.wrap IntKind.i64 (x3+(1:Int));
  let x5:Int:=x2+(↑(cntValS (List.getD x0 x1 zUndo).F.Fields):Int);
  Zi53_2 a k y→bif decide (y.2.2.1<(↑(List.length y.1):Int)) then y.2.1≤(4611686018427387903:Int)∧(0:Int)≤y.2.2.1∧x1<List.length y.1∧x1<List.length y.1∧x3≤(4611686018427387903:Int)∧(0:Int)≤y.2.2.1∧x1<List.length x4∧x1<List.length x4∧(0:Int)≤y.2.2.1∧x1<List.length x0∧x1<List.length x0∧x1<List.length x0∧(0:Int)≤x2∧x5≤(4611686018427387904:Int)∧Zi53_2 a k (List.modify x0 x1 fun(x:DUndo)=>{Key:=x.Key,F:={Kind:=x.F.Kind,Fields:=markValS (List.getD x0 x1 zUndo).F.Fields x2:DFact}:DUndo},x5,IntKind.wrap IntKind.i64 (y.2.2.1+(1:Int)),PUnit.unit)∧Zm53_2 a k (List.modify x0 x1 fun(x:DUndo)=>{Key:=x.Key,F:={Kind:=x.F.Kind,Fields:=markValS (List.getD x0 x1 zUndo).F.Fields x2:DFact}:DUndo},x5,IntKind.wrap IntKind.i64 (y.2.2.1+(1:Int)),PUnit.unit)<Zm53_2 a k y else asD [DV.one (Cell.lit (Value.int IntKind.i64 y.2.1))]=asD [DV.one (Cell.lit (Value.int IntKind.i64 (k+(↑(cntUndoS a):Int))))]∧asD [DV.one (Cell.sl Cd.eUndo y.1)]=asD [DV.one (Cell.sl Cd.eUndo (markUndoS a k))]):=by kernel_rfl
theorem Zo53:Holds EE (53,Zk53):=by
 refine holds_of EE_ok Go.Proofs.Tryz.func53 Zk53 (by kernel_rfl) Zu53 (us_ok _) Za53 (fun x hp hb=> ?_)
 obtain⟨a,k⟩:=x
 have hl_a:a.length≤9223372036854775807:=bdL (hb _ m0)
 have hl_k:=bdI (n:=k) (hb _ m1)
 have hp0:0≤k:=hp _ m0
 have hp1:k+cntUndoS a≤4611686018427387904:=hp _ m1
 clear hp hb
 rw[Zv53 a k]
 dsimp only
 refine⟨⟨by omega,by omega,by simp,by simp[ctS]⟩,?_⟩
 rintro⟨row,kk,i,⟨⟩⟩ ⟨h1,h2,rfl,rfl⟩
 simp only
 have hl:=mk_rl markUndo cntUndo a k h1 h2
 refine if_cond (fun hc=> ?_) (fun hc=> ?_)
 ·have hc:i<a.length:=by have hc:=of_decide_eq_true hc;omega
  have hct:=ctS_take cntUndo a zUndo h1 hc
  have hle:=ctS_take_le cntUndo a (i+1).toNat
  have hg:=mk_getD _ a zUndo (mk_tl markUndo cntUndo a k h1 h2) h1 hc
  have hM:=fun F hF=>mkS_mod markUndo cntUndo a zUndo k (i:=i) F h1 hc hF
  have hq:(cntUndoS a:Int)=ctS cntUndo a:=rfl
  generalize List.getD a i.toNat zUndo=x at*
  generalize hkk:k+(ctS cntUndo (a.take i.toNat):Int)=kk at*
  generalize List.take i.toNat (mkS markUndo cntUndo a k)++List.drop i.toNat a=R at*
  simp only[cntUndo] at hct
  simp(disch:=first|omega|(simp only[List.length_modify];omega)) only[List.length_modify,wrap_i64,getD_modify,modify_modify,hg,hl]
  repeat' (first|refine And.intro (by omega) ?_|fail)
  exact⟨⟨by omega,by omega,hM _ (by first|rfl|(simp only[markUndo,markBool];rw[Int.tmod_eq_emod_of_nonneg (by omega)];rfl)),by omega⟩,by simp only[Zm53_2];omega⟩
 ·have hc:a.length≤i:=by have hc:=of_decide_eq_false hc;omega
  rw[mk_done markUndo cntUndo a k hc,ct_done cntUndo a hc]
  exact⟨rfl,rfl⟩
def Zh53:HH:=⟨_,Zo53⟩
def Zk60:Con UU where
 α:=(List DUndo)×Int
 md:=[.ro,.ro]
 of:=oC (oL .eUndo) (o1 oI)
 ds:=fun x=>[dL .eUndo x.1,dI x.2]
 pre:=fun(a,k)=>[0≤k,k+cntUndoS a≤4611686018427387904]
 res:=fun(a,k)=>⟨[.one (.lit (.int .i64 (if markUndoS a k=a then k+cntUndoS a else-1)))],true,[]⟩
 law:=lC (lL .eUndo) (l1 lI)
def Zi60_2(a:(List DUndo))(k:Int):Int×Int×Unit→Prop:=fun(kk,i,_)=>0≤i∧i≤a.length∧kk=k+ctS cntUndo (a.take i.toNat)∧(mkS markUndo cntUndo (a.drop i.toNat) kk=a.drop i.toNat↔mkS markUndo cntUndo a k=a)
def Zm60_2(a:(List DUndo))(k:Int):Int×Int×Unit→Nat:=fun(kk,i,_)=>a.length-i.toNat
def Za60:Zk60.α→Nat→Option (Ann UU):=fun(a,k)=>annL [(2,annOf [.slot 1 (1,1024) (.lit (.int .i64)),.slot 5 (5,1024) (.lit (.int .i64))] (fun _=>Zi60_2 a k) (Zm60_2 a k))]
def Zu60:=us [Zh45,Zh99]
theorem Zv60(a:(List DUndo))(k:Int):goal EE Zu60 Go.Proofs.Tryz.f60 Zk60 Za60 (a,k)=(Zi60_2 a k (k,(0:Int),())∧
 ∀(y:Int×Int×PUnit),
  let x4:Nat:=Int.toNat y.2.1;
  let x6:Int:=IntKind.wrap IntKind.i64 (y.1+(1:Int));
  let x3:DUndo:=List.getD a x4 zUndo;
  let x5:Int:=IntKind.wrap IntKind.i64 (x6+(1:Int));
  let x2:DFact:=x3.F;
  let x1:List DVal:=x2.Fields;
  let x0:Int:=if markValS x1 x5=x1 then x5+(↑(cntValS x1):Int) else(-1:Int);
  Zi60_2 a k y→bif decide (y.2.1<(↑(List.length a):Int)) then(0:Int)≤y.2.1∧x4<List.length a∧y.1≤(4611686018427387903:Int)∧bif !ByteArray.toList x3.Key==ByteArray.toList (markText y.1) then Lf [DV.one (Cell.lit (Value.int IntKind.i64 (-1:Int)))] [DV.one (Cell.lit (Value.int IntKind.i64 (if markUndoS a k=a then k+(↑(cntUndoS a):Int) else(-1:Int))))] else(0:Int)≤y.2.1∧x4<List.length a∧x6≤(4611686018427387903:Int)∧bif !ByteArray.toList x2.Kind==ByteArray.toList (markText x6) then Lf [DV.one (Cell.lit (Value.int IntKind.i64 (-1:Int)))] [DV.one (Cell.lit (Value.int IntKind.i64 (if markUndoS a k=a then k+(↑(cntUndoS a):Int) else(-1:Int))))] else(0:Int)≤y.2.1∧x4<List.length a∧(0:Int)≤x5∧x5+(↑(cntValS x1):Int)≤(4611686018427387904:Int)∧bif decide (x0<(0:Int)) then Lf [DV.one (Cell.lit (Value.int IntKind.i64 (-1:Int)))] [DV.one (Cell.lit (Value.int IntKind.i64 (if markUndoS a k=a then k+(↑(cntUndoS a):Int) else(-1:Int))))] else Zi60_2 a k (x0,IntKind.wrap IntKind.i64 (y.2.1+(1:Int)),PUnit.unit)∧Zm60_2 a k (x0,IntKind.wrap IntKind.i64 (y.2.1+(1:Int)),PUnit.unit)<Zm60_2 a k y else Lf [DV.one (Cell.lit (Value.int IntKind.i64 y.1))] [DV.one (Cell.lit (Value.int IntKind.i64 (if markUndoS a k=a then k+(↑(cntUndoS a):Int) else(-1:Int))))]):=by kernel_rfl
theorem Zo60:Holds EE (60,Zk60):=by
 refine holds_of EE_ok Go.Proofs.Tryz.func60 Zk60 (by kernel_rfl) Zu60 (us_ok _) Za60 (fun x hp hb=> ?_)
 obtain⟨a,k⟩:=x
 have hl_a:a.length≤9223372036854775807:=bdL (hb _ m0)
 have hl_k:=bdI (n:=k) (hb _ m1)
 have hp0:0≤k:=hp _ m0
 have hp1:k+cntUndoS a≤4611686018427387904:=hp _ m1
 clear hp hb
 rw[Zv60 a k]
 dsimp only
 refine⟨⟨by omega,by omega,by simp[ctS],by simp⟩,?_⟩
 rintro⟨kk,i,⟨⟩⟩ ⟨h1,h2,hkk,hR⟩
 simp only
 simp only[markUndoS]
 refine if_cond (fun hc=> ?_) (fun hc=> ?_)
 ·have hc:i<a.length:=by have hc:=of_decide_eq_true hc;omega
  have hct:=ctS_take cntUndo a zUndo h1 hc
  have hle:=ctS_take_le cntUndo a (i+1).toNat
  have hq:(cntUndoS a:Int)=ctS cntUndo a:=rfl
  rw[drop_step a zUndo h1 hc] at hR
  generalize List.getD a i.toNat zUndo=x at*
  simp only[mkS,List.cons.injEq] at hR
  have e:kk+(cntUndo x:Int)=kk+1+1+(cntValS x.F.Fields:Int):=by first|(simp only[cntUndo];done)|(simp only[cntUndo];omega)
  rw[e] at hR
  simp only[markUndo,cntUndo] at hR hct
  simp(disch:=omega) only[wrap_i64,bne_int,toList_beq]
  obtain⟨x_Key,⟨x_F_Kind,x_F_Fields⟩⟩:=x
  simp only[DFact.mk.injEq,DUndo.mk.injEq] at*
  repeat' (first|refine And.intro (by omega) ?_|fail)
  refine if_cond (fun h=>Lf_no (fun hh=> ?_)) (fun h=> ?_)
  ·have hh:=hR.2 hh;simp_all
  have h:x_Key=markText (kk):=by simpa using h
  subst x_Key
  repeat' (first|refine And.intro (by omega) ?_|fail)
  refine if_cond (fun h=>Lf_no (fun hh=> ?_)) (fun h=> ?_)
  ·have hh:=hR.2 hh;simp_all
  have h:x_F_Kind=markText (kk+1):=by simpa using h
  subst x_F_Kind
  repeat' (first|refine And.intro (by omega) ?_|fail)
  by_cases hm:markValS x_F_Fields (kk+1+1)=x_F_Fields
  rotate_left
  ·simp only[if_neg hm];rw[cond_yes (by decide)]
   exact Lf_no (fun hh=>hm (by have hh:=hR.2 hh;simp_all))
  simp only[if_pos hm]
  refine if_cond (fun h=>absurd (of_decide_eq_true h) (by omega)) (fun h=> ?_)
  simp only[hm] at hR
  clear hm
  exact⟨⟨by omega,by omega,by omega,by simpa using hR⟩,by simp only[Zm60_2];omega⟩
 ·have hc:a.length≤i:=by have hc:=of_decide_eq_false hc;omega
  rw[drop_end a hc] at hR
  exact Lf_yes (hR.1 rfl) (by rw[hkk,ct_done _ _ hc];rfl)
def Zh60:HH:=⟨_,Zo60⟩
def allI(n:Nat)(p:Nat→Bool):Bool:=(List.range n).all p
theorem allI_true{n:Nat}{p:Nat→Bool}(h:∀j,j<n→p j=true):allI n p=true:=by simpa[allI] using h
theorem allI_false{n:Nat}{p:Nat→Bool}{j:Nat}(h:j<n)(hj:p j=false):allI n p=false:=by
 simp only[allI,List.all_eq_false,List.mem_range]
 exact⟨j,h,by simp[hj]⟩
theorem upto_step{i:Int}{p:Nat→Bool}(h0:0≤i)(h:∀j:Nat,(j:Int)<i→p j=true)(hi:p i.toNat=true):∀j:Nat,(j:Int)<i+1→p j=true:=by
 intro j hj
 by_cases hji:(j:Int)<i
 ·exact h j hji
 ·have:j=i.toNat:=by omega
  subst this;exact hi
def Zk34:Con UU where
 α:=Int
 md:=[.ro]
 of:=o1 oI
 ds:=fun x=>[dI x]
 pre:=fun _=>[]
 res:=fun n=>⟨[.one (.lit (.bool (decide (0≤n∧n≤1000000000))))],true,[]⟩
 law:=l1 lI
def Za34:Zk34.α→Nat→Option (Ann UU):=fun n=>annL []
def Zu34:=us [Zh74]
theorem Zv34(n:Int):goal EE Zu34 Go.Proofs.Tryz.f34 Zk34 Za34 n=(Lb (decide ((0:Int)≤n∧n≤(1000000000:Int))) (decide ((0:Int)≤n∧n≤(1000000000:Int)))):=by kernel_rfl
theorem Zo34:Holds EE (34,Zk34):=by
 refine holds_of EE_ok Go.Proofs.Tryz.func34 Zk34 (by kernel_rfl) Zu34 (us_ok _) Za34 (fun(n:Int) hp hb=> ?_)
 have hl_n:=bdI (n:=n) (hb _ m0)
 clear hp hb
 rw[Zv34 n]
 exact Lf_rfl _
def Zh34:HH:=⟨_,Zo34⟩
def idxI(n:Nat)(p:Nat→Bool):Int:=match(List.range n).find? p with|some i=>i|none=> -1
def anyI(n:Nat)(p:Nat→Bool):Bool:=(List.range n).any p
theorem idxI_found{n i:Nat}{p:Nat→Bool}(h:i<n)(hp:p i=true)(hj:∀j,j<i→p j=false):idxI n p=i:=by
 have:(List.range n).find? p=some i:=by
  rw[List.find?_range_eq_some]
  exact⟨hp,List.mem_range.2 h,fun j hj'=>by simp[hj j hj']⟩
 simp[idxI,this]
theorem idxI_none{n:Nat}{p:Nat→Bool}(hj:∀j,j<n→p j=false):idxI n p= -1:=by
 have:(List.range n).find? p=none:=by
  rw[List.find?_eq_none]
  intro j hj'
  simp[hj j (List.mem_range.1 hj')]
 simp[idxI,this]
theorem idxI_cases(n:Nat)(p:Nat→Bool):(idxI n p= -1∧∀j,j<n→p j=false)∨∃i,i<n∧idxI n p=(i:Int)∧p i=true∧∀j,j<i→p j=false:=by
 cases h:(List.range n).find? p with
 |none=>
  refine .inl ⟨by simp[idxI,h],fun j hj=> ?_⟩
  have:=List.find?_eq_none.1 h j (List.mem_range.2 hj)
  simpa using this
 |some i=>
  rw[List.find?_range_eq_some] at h
  obtain⟨h1,h2,h3⟩:=h
  exact .inr ⟨i,List.mem_range.1 h2,idxI_found (List.mem_range.1 h2) h1 (fun j hj=>by simpa using h3 j hj),h1,fun j hj=>by simpa using h3 j hj⟩
theorem idxI_congr{n:Nat}{p q:Nat→Bool}(h:∀j,j<n→p j=q j):idxI n p=idxI n q:=by
 rcases idxI_cases n q with⟨h1,h2⟩|⟨i,h1,h2,h3,h4⟩
 ·rw[h1,idxI_none (fun j hj=>by rw[h j hj,h2 j hj])]
 ·rw[h2,idxI_found h1 (by rw[h i h1,h3]) (fun j hj=>by rw[h j (by omega),h4 j hj])]
theorem anyI_true{n j:Nat}{p:Nat→Bool}(h:j<n)(hp:p j=true):anyI n p=true:=by
 simp only[anyI,List.any_eq_true,List.mem_range]
 exact⟨j,h,hp⟩
theorem anyI_false{n:Nat}{p:Nat→Bool}(h:∀j,j<n→p j=false):anyI n p=false:=by
 simp only[anyI,List.any_eq_false,List.mem_range]
 exact fun j hj=>by simp[h j hj]
theorem idxI_ge{n:Nat}{p:Nat→Bool}:decide (0≤idxI n p)=anyI n p:=by
 rcases idxI_cases n p with⟨h1,h2⟩|⟨i,h1,h2,h3,h4⟩
 ·rw[h1,anyI_false h2];rfl
 ·rw[h2,anyI_true h1 h3];simp
theorem closP_of{k:Con UU}{caps:List (DV UU)}{ds:List (DA UU)}{x:k.α}{v:Value}(h:k.of (ds.map DA.dv++caps)=some x)(hv:(k.res x).val=[.one (.lit v)])(hm:(k.res x).muts=[])
  (hl:k.md.length=ds.length+caps.length) (hp:∀p∈k.pre x,p):closP k caps ds=some v:=by
 unfold closP
 simp only[h,hv,hm]
 rw[if_pos ⟨hl,hp⟩]
theorem val_beq(a b:DVal):(a.K==b.K&&(a.N==b.N&&(ByteArray.toList a.S==ByteArray.toList b.S&&true)))=decide (a=b):=by
 obtain⟨K,N,S⟩:=a
 obtain⟨K',N',S'⟩:=b
 simp only[toList_beq,Bool.and_true]
 rw[Bool.eq_iff_iff]
 simp only[Bool.and_eq_true,beq_iff_eq,decide_eq_true_eq,DVal.mk.injEq]
theorem upto_no{i:Int}{p:Nat→Bool}(h0:0≤i)(h:∀j:Nat,(j:Int)<i→p j=false)(hi:p i.toNat=false):∀j:Nat,(j:Int)<i+1→p j=false:=by
 intro j hj
 by_cases hji:(j:Int)<i
 ·exact h j hji
 ·have:j=i.toNat:=by omega
  subst this;exact hi
def undoOk(s:ByteArray):Bool:=decide (s=noBytes)||nameOk s
def Zk148:Con UU where
 α:=(List DVal)×(List DVal)
 md:=[.ro,.ro]
 of:=oC (oL .eVal) (o1 (oL .eVal))
 ds:=fun x=>[dL .eVal x.1,dL .eVal x.2]
 pre:=fun _=>[]
 res:=fun(a,b)=>⟨[.one (.lit (.bool (decide (a=b))))],true,[]⟩
 law:=lC (lL .eVal) (l1 (lL .eVal))
def Zi148_4(a:(List DVal))(b:(List DVal)):Int×Unit→Prop:=fun(i,_)=>0≤i∧i≤a.length∧a.length=b.length∧(a.drop i.toNat=b.drop i.toNat↔a=b)
def Zm148_4(a:(List DVal))(b:(List DVal)):Int×Unit→Nat:=fun(i,_)=>a.length-i.toNat
def Za148:Zk148.α→Nat→Option (Ann UU):=fun(a,b)=>annL [(4,annOf [.slot 5 (5,1024) (.lit (.int .i64))] (fun _=>Zi148_4 a b) (Zm148_4 a b))]
def Zu148:List (FuncId×Con UU):=[]
theorem Zv148(a:(List DVal))(b:(List DVal)):goal EE Zu148 Go.Proofs.Tryz.f148 Zk148 Za148 (a,b)=(bif (a.length:Int) !=(b.length:Int) then Lb false (decide (a=b))
else
 Zi148_4 a b ((0:Int),PUnit.unit)∧
  ∀(y:Int×PUnit),
   let x0:DVal:=List.getD a (Int.toNat y.1) zVal;
   let x1:DVal:=List.getD b (Int.toNat y.1) zVal;
   Zi148_4 a b y→bif decide (y.1<(↑(List.length a):Int)) then(0:Int)≤y.1∧Int.toNat y.1<List.length a∧(0:Int)≤y.1∧Int.toNat y.1<List.length b∧bif !(x0.K==x1.K&&(x0.N==x1.N&&(ByteArray.toList x0.S==ByteArray.toList x1.S&&true))) then Lf [DV.one (Cell.lit (Value.bool false))] [DV.one (Cell.lit (Value.bool (decide (a=b))))] else Zi148_4 a b (IntKind.wrap IntKind.i64 (y.1+(1:Int)),PUnit.unit)∧Zm148_4 a b (IntKind.wrap IntKind.i64 (y.1+(1:Int)),PUnit.unit)<Zm148_4 a b y else Lf [DV.one (Cell.lit (Value.bool true))] [DV.one (Cell.lit (Value.bool (decide (a=b))))]):=by kernel_rfl
theorem Zo148:Holds EE (148,Zk148):=by
 refine holds_of EE_ok Go.Proofs.Tryz.func148 Zk148 (by kernel_rfl) Zu148 all_nil Za148 (fun x hp hb=> ?_)
 obtain⟨a,b⟩:=x
 have hl_a:a.length≤9223372036854775807:=bdL (hb _ m0)
 have hl_b:b.length≤9223372036854775807:=bdL (hb _ m1)
 clear hp hb
 rw[Zv148 a b]
 dsimp only
 refine if_cond (fun h=>Lf_f ?_) (fun h=>⟨?_,?_⟩)
 ·rintro rfl;simp at h
 ·simp[Zi148_4] at*;omega
 rintro⟨i,⟨⟩⟩ ⟨h1,h2,h3,hR⟩
 simp only at*
 refine if_cond (fun hc=> ?_) (fun hc=> ?_)
 ·have hc:i<a.length:=by simpa using hc
  rw[drop_step a zVal h1 hc,drop_step b zVal h1 (by omega)] at hR
  rw[wrap_i64 (by omega) (by omega)]
  simp only[val_beq]
  refine⟨by omega,by omega,by omega,by omega,if_cond (fun h=>Lf_f ?_) (fun h=>⟨⟨by omega,by omega,h3,?_⟩,?_⟩)⟩
  ·rw[←hR];simp at h;simp[h]
  ·rw[←hR];simp at h;simp[h]
  ·simp only[Zm148_4];omega
 ·have hc:a.length≤i:=by simpa using hc
  rw[drop_end a hc,drop_end b (by omega)] at hR
  exact Lf_t (hR.1 rfl)
def Zh148:HH:=⟨_,Zo148⟩
def Zk159:Con UU where
 α:=(List DVal)×(List DVal)
 md:=[.ro,.ro]
 of:=oC (oL .eVal) (o1 (oL .eVal))
 ds:=fun x=>[dL .eVal x.1,dL .eVal x.2]
 pre:=fun _=>[]
 res:=fun(a,b)=>⟨[.one (.lit (.bool (decide (a=b))))],true,[]⟩
 law:=lC (lL .eVal) (l1 (lL .eVal))
def Zi159_4(a:(List DVal))(b:(List DVal)):Int×Unit→Prop:=fun(i,_)=>0≤i∧i≤a.length∧a.length=b.length∧(a.drop i.toNat=b.drop i.toNat↔a=b)
def Zm159_4(a:(List DVal))(b:(List DVal)):Int×Unit→Nat:=fun(i,_)=>a.length-i.toNat
def Za159:Zk159.α→Nat→Option (Ann UU):=fun(a,b)=>annL [(4,annOf [.slot 13 (13,1024) (.lit (.int .i64))] (fun _=>Zi159_4 a b) (Zm159_4 a b))]
def Zu159:List (FuncId×Con UU):=[]
theorem Zv159(a:(List DVal))(b:(List DVal)):goal EE Zu159 Go.Proofs.Tryz.f159 Zk159 Za159 (a,b)=(bif (a.length:Int) !=(b.length:Int) then Lb false (decide (a=b))
else
 Zi159_4 a b ((0:Int),PUnit.unit)∧
  ∀(y:Int×PUnit),
   let x0:DVal:=List.getD b (Int.toNat y.1) zVal;
   let x1:DVal:=List.getD a (Int.toNat y.1) zVal;
   Zi159_4 a b y→bif decide (y.1<(↑(List.length a):Int)) then(0:Int)≤y.1∧Int.toNat y.1<List.length a∧(0:Int)≤y.1∧Int.toNat y.1<List.length b∧bif !(x1.K==x0.K&&(x1.N==x0.N&&(ByteArray.toList x1.S==ByteArray.toList x0.S&&true))) then Lf [DV.one (Cell.lit (Value.bool false))] [DV.one (Cell.lit (Value.bool (decide (a=b))))] else Zi159_4 a b (IntKind.wrap IntKind.i64 (y.1+(1:Int)),PUnit.unit)∧Zm159_4 a b (IntKind.wrap IntKind.i64 (y.1+(1:Int)),PUnit.unit)<Zm159_4 a b y else Lf [DV.one (Cell.lit (Value.bool true))] [DV.one (Cell.lit (Value.bool (decide (a=b))))]):=by kernel_rfl
theorem Zo159:Holds EE (159,Zk159):=by
 refine holds_of EE_ok Go.Proofs.Tryz.func159 Zk159 (by kernel_rfl) Zu159 all_nil Za159 (fun x hp hb=> ?_)
 obtain⟨a,b⟩:=x
 have hl_a:a.length≤9223372036854775807:=bdL (hb _ m0)
 have hl_b:b.length≤9223372036854775807:=bdL (hb _ m1)
 clear hp hb
 rw[Zv159 a b]
 dsimp only
 refine if_cond (fun h=>Lf_f ?_) (fun h=>⟨?_,?_⟩)
 ·rintro rfl;simp at h
 ·simp[Zi159_4] at*;omega
 rintro⟨i,⟨⟩⟩ ⟨h1,h2,h3,hR⟩
 simp only at*
 refine if_cond (fun hc=> ?_) (fun hc=> ?_)
 ·have hc:i<a.length:=by simpa using hc
  rw[drop_step a zVal h1 hc,drop_step b zVal h1 (by omega)] at hR
  rw[wrap_i64 (by omega) (by omega)]
  simp only[val_beq]
  refine⟨by omega,by omega,by omega,by omega,if_cond (fun h=>Lf_f ?_) (fun h=>⟨⟨by omega,by omega,h3,?_⟩,?_⟩)⟩
  ·rw[←hR];simp at h;simp[h]
  ·rw[←hR];simp at h;simp[h]
  ·simp only[Zm159_4];omega
 ·have hc:a.length≤i:=by simpa using hc
  rw[drop_end a hc,drop_end b (by omega)] at hR
  exact Lf_t (hR.1 rfl)
def Zh159:HH:=⟨_,Zo159⟩
def Zk156:Con UU where
 α:=ByteArray
 md:=[.ro]
 of:=o1 oS
 ds:=fun x=>[dS x]
 pre:=fun _=>[]
 res:=fun s=>⟨[.one (.lit (.bool (undoOk s)))],true,[]⟩
 law:=l1 lS
def Za156:Zk156.α→Nat→Option (Ann UU):=fun s=>annL []
def Zu156:=us [Zh75]
theorem Zv156(s:ByteArray):goal EE Zu156 Go.Proofs.Tryz.f156 Zk156 Za156 s=(bif ByteArray.toList s==ByteArray.toList {data:= #[]:ByteArray} then Lb true (undoOk s) else Lb (nameOk s) (undoOk s)):=by kernel_rfl
theorem Zo156:Holds EE (156,Zk156):=by
 refine holds_of EE_ok Go.Proofs.Tryz.func156 Zk156 (by kernel_rfl) Zu156 (us_ok _) Za156 (fun(s:ByteArray) hp hb=> ?_)
 have hl_s:=bdS (s:=s) (hb _ m0)
 clear hp hb
 rw[Zv156 s]
 have e:(ByteArray.toList s==ByteArray.toList {data:= #[]})=decide (s=noBytes):=toList_beq _ _
 simp only[e,undoOk]
 refine if_cond (fun h=>Lf_b ?_) (fun h=>Lf_b ?_)<;>grind
def Zh156:HH:=⟨_,Zo156⟩
def largeB(b:Int):Bool:=decide (65≤b∧b≤90)
def varB(b:Int):Bool:=wordB b||largeB b
def varOk(s:ByteArray):Bool:=decide (1≤s.size∧s.size≤12)&&largeB (List.getD (bs s) 0 0).toNat&&(bs s).all (byteP varB)
def argOk(a:DArg):Bool:=bif decide (a.K=1) then varOk a.S&&decide (a.V=zVal) else bif decide (a.K=2) then valOk a.V&&decide (a.S=noBytes) else bif decide (a.K=3) then decide (a.S=noBytes)&&decide (a.V=zVal) else false
def termOk(a:DArg):Bool:=argOk a&& !decide (a.K=3)
def patOk(p:DPat):Bool:=nameOk p.Kind&&decide (p.Args.length≤5)&&p.Args.all argOk
def kondOk(c:DCond):Bool:=decide (1≤c.Op∧c.Op≤3)&&termOk c.L&&termOk c.R
def bPlus:ByteArray:=⟨#[43]⟩
def bMinus:ByteArray:=⟨#[45]⟩
def exprOk(e:DExpr):Bool:=bif decide (e.Op=noBytes) then termOk e.L&&decide (e.R=zArg) else bif decide (e.Op=bPlus)||decide (e.Op=bMinus) then termOk e.L&&termOk e.R else false
def exprsOk(l:List DExpr):Bool:=decide (l.length≤5)&&l.all exprOk
def bareA(a:DAct):Bool:=decide (a.Name=noBytes)&&decide (a.Args.length=0)&&decide (a.Undo=noBytes)
def actOk(a:DAct):Bool:=
 bif decide (a.Kind=1) then nameOk a.Name&&exprsOk a.Args&&decide (a.N=0)&&decide (a.Undo=noBytes)
 else bif decide (a.Kind=2) then bareA a&&decide (0≤a.N∧a.N≤7)
 else bif decide (a.Kind=3) then nameOk a.Name&&exprsOk a.Args&&decide (a.N=0)&&undoOk a.Undo
 else bif decide (a.Kind=4) then nameOk a.Name&&exprsOk a.Args&&decide (0≤a.N∧a.N≤100000)&&decide (a.Undo=noBytes)
 else bif decide (a.Kind=5)||decide (a.Kind=6) then bareA a&&decide (a.N=0) else false
theorem argR_beq(a b:DArg):(a.K==b.K&&(ByteArray.toList a.S==ByteArray.toList b.S&&(a.V.K==b.V.K&&(a.V.N==b.V.N&&(ByteArray.toList a.V.S==ByteArray.toList b.V.S&&true))&&true)))=decide (a=b):=by
 obtain⟨K,S,K2,N2,S2⟩:=a
 obtain⟨K',S',K2',N2',S2'⟩:=b
 simp only[toList_beq,Bool.and_true]
 rw[Bool.eq_iff_iff]
 simp only[Bool.and_eq_true,beq_iff_eq,decide_eq_true_eq,DArg.mk.injEq,DVal.mk.injEq]
def Zk188:Con UU where
 α:=Int
 md:=[.ro]
 of:=o1 oY
 ds:=fun x=>[dY x]
 pre:=fun _=>[]
 res:=fun b=>⟨[.one (.lit (.bool (largeB b)))],true,[]⟩
 law:=l1 lY
def Za188:Zk188.α→Nat→Option (Ann UU):=fun b=>annL []
def Zu188:List (FuncId×Con UU):=[]
theorem Zv188(b:Int):goal EE Zu188 Go.Proofs.Tryz.f188 Zk188 Za188 b=(bif decide (b≥(65:Int)) then Lb (decide (b≤(90:Int))) (largeB b) else Lb false (largeB b)):=by kernel_rfl
theorem Zo188:Holds EE (188,Zk188):=by
 refine holds_of EE_ok Go.Proofs.Tryz.func188 Zk188 (by kernel_rfl) Zu188 all_nil Za188 (fun(b:Int) hp hb=> ?_)
 skip
 clear hp hb
 rw[Zv188 b]
 refine if_cond (fun h=>Lf_b ?_) (fun h=>Lf_b ?_)<;>grind [largeB]
def Zh188:HH:=⟨_,Zo188⟩
def Zk185:Con UU where
 α:=Int
 md:=[.ro]
 of:=o1 oY
 ds:=fun x=>[dY x]
 pre:=fun c=>[0≤c∧c≤255]
 res:=fun c=>⟨[.one (.lit (.bool (largeB c)))],true,[]⟩
 law:=l1 lY
def Za185:Zk185.α→Nat→Option (Ann UU):=fun c=>annL []
def Zu185:=us [Zh30]
theorem Zv185(c:Int):goal EE Zu185 Go.Proofs.Tryz.f185 Zk185 Za185 c=(Lb (decide ((65:Int)≤IntKind.wrap IntKind.i64 c∧IntKind.wrap IntKind.i64 c≤(90:Int))) (largeB c)):=by kernel_rfl
theorem Zo185:Holds EE (185,Zk185):=by
 refine holds_of EE_ok Go.Proofs.Tryz.func185 Zk185 (by kernel_rfl) Zu185 (us_ok _) Za185 (fun(c:Int) hp hb=> ?_)
 have hp0:0≤c∧c≤255:=hp _ m0
 clear hp hb
 rw[Zv185 c]
 rw[wrap_i64 (by omega) (by omega)]
 exact Lf_b rfl
def Zh185:HH:=⟨_,Zo185⟩
def Zk179:Con UU where
 α:=ByteArray
 md:=[.ro]
 of:=o1 oS
 ds:=fun x=>[dS x]
 pre:=fun _=>[]
 res:=fun s=>⟨[.one (.lit (.bool (varOk s)))],true,[]⟩
 law:=l1 lS
def Zi179_2(s:ByteArray):Int×Unit→Prop:=fun(i,_)=>0≤i∧i≤s.size∧((bs s).drop i.toNat).all (byteP varB)=(bs s).all (byteP varB)∧(0<i→largeB (List.getD (bs s) 0 0).toNat=true)
def Zm179_2(s:ByteArray):Int×Unit→Nat:=fun(i,_)=>s.size-i.toNat
def Za179:Zk179.α→Nat→Option (Ann UU):=fun s=>annL [(2,annOf [.slot 3 (3,1024) (.lit (.int .i64))] (fun _=>Zi179_2 s) (Zm179_2 s))]
def Zu179:=us [Zh185,Zh109,Zh30]
theorem Zv179(s:ByteArray):goal EE Zu179 Go.Proofs.Tryz.f179 Zk179 Za179 s=(Zi179_2 s ((0:Int),())∧
 ∀(y:Int×PUnit),
  let x0:Int:=(↑(UInt8.toNat (List.getD s.data.toList (Int.toNat y.1) (0:UInt8))):Int);
  Zi179_2 s y→bif decide (y.1<(↑(ByteArray.size s):Int)) then(0:Int)≤y.1∧Int.toNat y.1<ByteArray.size s∧((0:Int)≤x0∧x0≤(255:Int))∧bif !largeB x0 then bif y.1==(0:Int) then Lf [DV.one (Cell.lit (Value.bool false))] [DV.one (Cell.lit (Value.bool (varOk s)))] else(0:Int)≤y.1∧Int.toNat y.1<ByteArray.size s∧((0:Int)≤x0∧x0≤(255:Int))∧bif !wordB x0 then Lf [DV.one (Cell.lit (Value.bool false))] [DV.one (Cell.lit (Value.bool (varOk s)))] else Zi179_2 s (IntKind.wrap IntKind.i64 (y.1+(1:Int)),PUnit.unit)∧Zm179_2 s (IntKind.wrap IntKind.i64 (y.1+(1:Int)),PUnit.unit)<Zm179_2 s y else Zi179_2 s (IntKind.wrap IntKind.i64 (y.1+(1:Int)),PUnit.unit)∧Zm179_2 s (IntKind.wrap IntKind.i64 (y.1+(1:Int)),PUnit.unit)<Zm179_2 s y else Lf [DV.one (Cell.lit (Value.bool (decide ((1:Int)≤(↑(ByteArray.size s):Int)∧(↑(ByteArray.size s):Int)≤(12:Int)))))] [DV.one (Cell.lit (Value.bool (varOk s)))]):=by kernel_rfl
theorem Zo179:Holds EE (179,Zk179):=by
 refine holds_of EE_ok Go.Proofs.Tryz.func179 Zk179 (by kernel_rfl) Zu179 (us_ok _) Za179 (fun(s:ByteArray) hp hb=> ?_)
 have hl_s:=bdS (s:=s) (hb _ m0)
 clear hp hb
 rw[Zv179 s]
 dsimp only
 refine⟨⟨by omega,by omega,rfl,by omega⟩,?_⟩
 rintro⟨i,⟨⟩⟩ ⟨h1,h2,hR,hS⟩
 have hl:=bs_len s
 simp only[bs_eq]
 refine if_cond (fun hc=> ?_) (fun hc=> ?_)
 ·have hc:=of_decide_eq_true hc
  have hb:=(List.getD (bs s) i.toNat 0).toNat_lt
  rw[all_step _ _ 0 h1 (by omega)] at hR
  rw[wrap_i64 (by omega) (by omega)]
  have hN:(bs s).all (byteP varB)=false→varOk s=false:=fun h=>by simp[varOk,h]
  have hm:Zm179_2 s (i+1,PUnit.unit)<Zm179_2 s (i,()):=by simp only[Zm179_2];omega
  refine⟨by omega,by omega,⟨by omega,by omega⟩,if_cond (fun h=>if_cond (fun h'=>Lf_ff ?_) (fun h'=>⟨by omega,by omega,⟨by omega,by omega⟩,if_cond (fun h''=>Lf_ff (hN ?_)) (fun h''=>⟨⟨by omega,by omega,?_,fun _=>hS ?_⟩,hm⟩)⟩)) (fun h=>⟨⟨by omega,by omega,?_,fun _=> ?_⟩,hm⟩)⟩
  ·have h':i=0:=by simpa using h'
   subst h'
   have h:largeB ((List.getD (bs s) 0 0).toNat:Int)=false:=by simpa using h
   simp only[varOk,h];simp
  ·rw[←hR];simp only[byteP,varB];simp at h h'';simp[h,h'']
  ·rw[←hR];simp only[byteP,varB];simp at h h'';simp[h,h'']
  ·have h':¬i=0:=by simpa using h'
   omega
  ·rw[←hR];simp only[byteP,varB];simp at h;simp[h]
  ·by_cases hz:i=0
   ·subst hz;simpa using h
   ·exact hS (by omega)
 ·have hc:=of_decide_eq_false hc
  rw[drop_end _ (by omega)] at hR
  refine Lf_b ?_
  simp only[varOk,←hR]
  by_cases hz:0<i
  ·rw[hS hz];simp only[List.all_nil];grind
  ·rw[decide_eq_false (by omega),decide_eq_false (by omega)];rfl
def Zh179:HH:=⟨_,Zo179⟩
def Zk182:Con UU where
 α:=ByteArray
 md:=[.ro]
 of:=o1 oS
 ds:=fun x=>[dS x]
 pre:=fun _=>[]
 res:=fun s=>⟨[.one (.lit (.bool (varOk s)))],true,[]⟩
 law:=l1 lS
def Zi182_4(s:ByteArray):Int×Unit→Prop:=fun(i,_)=>0≤i∧i≤s.size∧1≤s.size∧s.size≤12∧largeB (List.getD (bs s) 0 0).toNat=true∧((bs s).drop i.toNat).all (byteP varB)=(bs s).all (byteP varB)
def Zm182_4(s:ByteArray):Int×Unit→Nat:=fun(i,_)=>s.size-i.toNat
def Za182:Zk182.α→Nat→Option (Ann UU):=fun s=>annL [(4,annOf [.slot 3 (3,1024) (.lit (.int .i64))] (fun _=>Zi182_4 s) (Zm182_4 s))]
def Zu182:=us [Zh188,Zh152]
theorem Zv182(s:ByteArray):goal EE Zu182 Go.Proofs.Tryz.f182 Zk182 Za182 s=(bif decide ((↑(ByteArray.size s):Int)<(1:Int)) then Lb false (varOk s)
else
 bif decide ((↑(ByteArray.size s):Int)>(12:Int)) then Lf [DV.one (Cell.lit (Value.bool false))] [DV.one (Cell.lit (Value.bool (varOk s)))]
 else
  (0:Int)≤(0:Int)∧
   Int.toNat (0:Int)<ByteArray.size s∧
    bif !largeB (↑(UInt8.toNat (List.getD s.data.toList (Int.toNat (0:Int)) (0:UInt8))):Int) then Lf [DV.one (Cell.lit (Value.bool false))] [DV.one (Cell.lit (Value.bool (varOk s)))]
    else
     Zi182_4 s ((0:Int),PUnit.unit)∧
      ∀(y:Int×PUnit),
       let x0:Int:=(↑(UInt8.toNat (List.getD s.data.toList (Int.toNat y.1) (0:UInt8))):Int);
       Zi182_4 s y→bif decide (y.1<(↑(ByteArray.size s):Int)) then(0:Int)≤y.1∧Int.toNat y.1<ByteArray.size s∧bif !wordB x0 then(0:Int)≤y.1∧Int.toNat y.1<ByteArray.size s∧bif !largeB x0 then Lf [DV.one (Cell.lit (Value.bool false))] [DV.one (Cell.lit (Value.bool (varOk s)))] else Zi182_4 s (IntKind.wrap IntKind.i64 (y.1+(1:Int)),PUnit.unit)∧Zm182_4 s (IntKind.wrap IntKind.i64 (y.1+(1:Int)),PUnit.unit)<Zm182_4 s y else Zi182_4 s (IntKind.wrap IntKind.i64 (y.1+(1:Int)),PUnit.unit)∧Zm182_4 s (IntKind.wrap IntKind.i64 (y.1+(1:Int)),PUnit.unit)<Zm182_4 s y else Lf [DV.one (Cell.lit (Value.bool true))] [DV.one (Cell.lit (Value.bool (varOk s)))]):=by kernel_rfl
theorem Zo182:Holds EE (182,Zk182):=by
 refine holds_of EE_ok Go.Proofs.Tryz.func182 Zk182 (by kernel_rfl) Zu182 (us_ok _) Za182 (fun(s:ByteArray) hp hb=> ?_)
 have hl_s:=bdS (s:=s) (hb _ m0)
 clear hp hb
 rw[Zv182 s]
 dsimp only
 have hl:=bs_len s
 simp only[bs_eq]
 refine if_cond (fun h=>Lf_ff ?_) (fun h=>if_cond (fun h'=>Lf_ff ?_) (fun h'=> ?_))
 ·have h:=of_decide_eq_true h;simp only[varOk];rw[decide_eq_false (by omega)];rfl
 ·have h':=of_decide_eq_true h';simp only[varOk];rw[decide_eq_false (by omega)];rfl
 have h:=of_decide_eq_false h
 have h':=of_decide_eq_false h'
 refine⟨by omega,by omega,if_cond (fun g=>Lf_ff ?_) (fun g=>⟨⟨by omega,by omega,by omega,by omega,by simpa using g,rfl⟩,?_⟩)⟩
 ·have g:largeB ((List.getD (bs s) 0 0).toNat:Int)=false:=by simpa using g
  simp only[varOk,g];simp
 rintro⟨i,⟨⟩⟩ ⟨h1,h2,h3,h4,hS,hR⟩
 simp only
 refine if_cond (fun hc=> ?_) (fun hc=> ?_)
 ·have hc:=of_decide_eq_true hc
  rw[all_step _ _ 0 h1 (by omega)] at hR
  rw[wrap_i64 (by omega) (by omega)]
  have hN:(bs s).all (byteP varB)=false→varOk s=false:=fun h=>by simp[varOk,h]
  have hm:Zm182_4 s (i+1,PUnit.unit)<Zm182_4 s (i,()):=by simp only[Zm182_4];omega
  refine⟨by omega,by omega,if_cond (fun h=>⟨by omega,by omega,if_cond (fun h''=>Lf_ff (hN ?_)) (fun h''=>⟨⟨by omega,by omega,h3,h4,hS,?_⟩,hm⟩)⟩) (fun h=>⟨⟨by omega,by omega,h3,h4,hS,?_⟩,hm⟩)⟩
  ·rw[←hR];simp only[byteP,varB];simp at h h'';simp[h,h'']
  ·rw[←hR];simp only[byteP,varB];simp at h h'';simp[h,h'']
  ·rw[←hR];simp only[byteP,varB];simp at h;simp[h]
 ·have hc:=of_decide_eq_false hc
  rw[drop_end _ (by omega)] at hR
  refine Lf_tt ?_
  simp only[varOk,←hR,hS,decide_eq_true (show 1≤s.size∧s.size≤12 from⟨h3,h4⟩)];rfl
def Zh182:HH:=⟨_,Zo182⟩
def Zk169:Con UU where
 α:=DArg
 md:=[.ro]
 of:=o1 (oA .eArg)
 ds:=fun x=>[dA .eArg x]
 pre:=fun _=>[]
 res:=fun a=>⟨[.one (.lit (.bool (argOk a)))],true,[]⟩
 law:=l1 (lA .eArg)
def Za169:Zk169.α→Nat→Option (Ann UU):=fun a=>annL []
def Zu169:=us [Zh179,Zh180]
theorem Zv169(a:DArg):goal EE Zu169 Go.Proofs.Tryz.f169 Zk169 Za169 a=(let x0:Bool:=ByteArray.toList a.S==ByteArray.toList {data:= #[]:ByteArray};
bif a.K==(1:Int) then bif varOk a.S then Lf [DV.one (Cell.lit (Value.bool (a.V.K==(0:Int)&&(a.V.N==(0:Int)&&(ByteArray.toList a.V.S==ByteArray.toList {data:= #[]:ByteArray}&&true)))))] [DV.one (Cell.lit (Value.bool (argOk a)))] else Lf [DV.one (Cell.lit (Value.bool false))] [DV.one (Cell.lit (Value.bool (argOk a)))] else bif a.K==(2:Int) then bif valOk a.V then Lf [DV.one (Cell.lit (Value.bool x0))] [DV.one (Cell.lit (Value.bool (argOk a)))] else Lf [DV.one (Cell.lit (Value.bool false))] [DV.one (Cell.lit (Value.bool (argOk a)))] else bif a.K==(3:Int) then bif x0 then Lf [DV.one (Cell.lit (Value.bool (a.V.K==(0:Int)&&(a.V.N==(0:Int)&&(ByteArray.toList a.V.S==ByteArray.toList {data:= #[]:ByteArray}&&true)))))] [DV.one (Cell.lit (Value.bool (argOk a)))] else Lf [DV.one (Cell.lit (Value.bool false))] [DV.one (Cell.lit (Value.bool (argOk a)))] else Lf [DV.one (Cell.lit (Value.bool false))] [DV.one (Cell.lit (Value.bool (argOk a)))]):=by kernel_rfl
theorem Zo169:Holds EE (169,Zk169):=by
 refine holds_of EE_ok Go.Proofs.Tryz.func169 Zk169 (by kernel_rfl) Zu169 (us_ok _) Za169 (fun(a:DArg) hp hb=> ?_)
 have hz0:=bd_eArg (x:=a) (hb _ m0)
 have hl_a_S:=hz0.1
 have hl_a_V_S:=hz0.2
 clear hp hb
 rw[Zv169 a]
 dsimp only
 have ev:∀v:DVal,(v.K==0&&(v.N==0&&(ByteArray.toList v.S==ByteArray.toList {data:= #[]}&&true)))=decide (v=zVal):=fun v=>val_beq v zVal
 have e:∀s:ByteArray,(ByteArray.toList s==ByteArray.toList {data:= #[]})=decide (s=noBytes):=fun s=>toList_beq _ _
 simp only[ev,e,argOk]
 repeat' (refine if_cond (fun h=> ?_) (fun h=> ?_))
 all_goals (refine Lf_b ?_;grind)
def Zh169:HH:=⟨_,Zo169⟩
def Zk174:Con UU where
 α:=DArg
 md:=[.ro]
 of:=o1 (oA .eArg)
 ds:=fun x=>[dA .eArg x]
 pre:=fun _=>[]
 res:=fun a=>⟨[.one (.lit (.bool (argOk a)))],true,[]⟩
 law:=l1 (lA .eArg)
def Za174:Zk174.α→Nat→Option (Ann UU):=fun a=>annL []
def Zu174:=us [Zh182,Zh183]
theorem Zv174(a:DArg):goal EE Zu174 Go.Proofs.Tryz.f174 Zk174 Za174 a=(let x0:Bool:=ByteArray.toList a.S==ByteArray.toList {data:= #[]:ByteArray};
bif a.K==(1:Int) then bif varOk a.S then Lf [DV.one (Cell.lit (Value.bool (a.V.K==(0:Int)&&(a.V.N==(0:Int)&&(ByteArray.toList a.V.S==ByteArray.toList {data:= #[]:ByteArray}&&true)))))] [DV.one (Cell.lit (Value.bool (argOk a)))] else Lf [DV.one (Cell.lit (Value.bool false))] [DV.one (Cell.lit (Value.bool (argOk a)))] else bif a.K==(2:Int) then bif x0 then Lf [DV.one (Cell.lit (Value.bool (valOk a.V)))] [DV.one (Cell.lit (Value.bool (argOk a)))] else Lf [DV.one (Cell.lit (Value.bool false))] [DV.one (Cell.lit (Value.bool (argOk a)))] else bif a.K==(3:Int) then bif x0 then Lf [DV.one (Cell.lit (Value.bool (a.V.K==(0:Int)&&(a.V.N==(0:Int)&&(ByteArray.toList a.V.S==ByteArray.toList {data:= #[]:ByteArray}&&true)))))] [DV.one (Cell.lit (Value.bool (argOk a)))] else Lf [DV.one (Cell.lit (Value.bool false))] [DV.one (Cell.lit (Value.bool (argOk a)))] else Lf [DV.one (Cell.lit (Value.bool false))] [DV.one (Cell.lit (Value.bool (argOk a)))]):=by kernel_rfl
theorem Zo174:Holds EE (174,Zk174):=by
 refine holds_of EE_ok Go.Proofs.Tryz.func174 Zk174 (by kernel_rfl) Zu174 (us_ok _) Za174 (fun(a:DArg) hp hb=> ?_)
 have hz0:=bd_eArg (x:=a) (hb _ m0)
 have hl_a_S:=hz0.1
 have hl_a_V_S:=hz0.2
 clear hp hb
 rw[Zv174 a]
 dsimp only
 have ev:∀v:DVal,(v.K==0&&(v.N==0&&(ByteArray.toList v.S==ByteArray.toList {data:= #[]}&&true)))=decide (v=zVal):=fun v=>val_beq v zVal
 have e:∀s:ByteArray,(ByteArray.toList s==ByteArray.toList {data:= #[]})=decide (s=noBytes):=fun s=>toList_beq _ _
 simp only[ev,e,argOk]
 repeat' (refine if_cond (fun h=> ?_) (fun h=> ?_))
 all_goals (refine Lf_b ?_;grind)
def Zh174:HH:=⟨_,Zo174⟩
def Zk143:Con UU where
 α:=DPat
 md:=[.ro]
 of:=o1 (oA .ePat)
 ds:=fun x=>[dA .ePat x]
 pre:=fun _=>[]
 res:=fun p=>⟨[.one (.lit (.bool (patOk p)))],true,[]⟩
 law:=l1 (lA .ePat)
def Zi143_2(p:DPat):Int×(ByteArray×List DArg×Bool×Unit)×Unit→Prop:=fun(i,b,_)=>b=(p.Kind,p.Args,p.Not,())∧0≤i∧i≤p.Args.length∧(p.Args.drop i.toNat).all argOk=p.Args.all argOk
def Zm143_2(p:DPat):Int×(ByteArray×List DArg×Bool×Unit)×Unit→Nat:=fun(i,b,_)=>p.Args.length-i.toNat
def Za143:Zk143.α→Nat→Option (Ann UU):=fun p=>annL [(2,annOf [.slot 3 (3,1024) (.lit (.int .i64)),.box 1 (1,1024) [.lit .str,.shr .eArg,.lit .bool]] (fun _=>Zi143_2 p) (Zm143_2 p))]
def Zu143:=us [Zh169,Zh68]
theorem Zv143(p:DPat):goal EE Zu143 Go.Proofs.Tryz.f143 Zk143 Za143 p=(Zi143_2 p ((0:Int),(p.Kind,p.Args,p.Not,()),())∧
 ∀(y:Int×(ByteArray×List DArg×Bool×PUnit)×PUnit),
  let x1:Nat:=List.length y.2.1.2.1;
  let x0:Int:=(↑x1:Int);
  Zi143_2 p y→bif decide (y.1<x0) then(0:Int)≤y.1∧Int.toNat y.1<x1∧bif !argOk (List.getD y.2.1.2.1 (Int.toNat y.1) zArg) then Lf [DV.one (Cell.lit (Value.bool false))] [DV.one (Cell.lit (Value.bool (patOk p)))] else Zi143_2 p (IntKind.wrap IntKind.i64 (y.1+(1:Int)),(y.2.1.1,y.2.1.2.1,y.2.1.2.2.1,PUnit.unit),PUnit.unit)∧Zm143_2 p (IntKind.wrap IntKind.i64 (y.1+(1:Int)),(y.2.1.1,y.2.1.2.1,y.2.1.2.2.1,PUnit.unit),PUnit.unit)<Zm143_2 p y else bif nameOk y.2.1.1 then Lf [DV.one (Cell.lit (Value.bool (decide (x0≤(5:Int)))))] [DV.one (Cell.lit (Value.bool (patOk p)))] else Lf [DV.one (Cell.lit (Value.bool false))] [DV.one (Cell.lit (Value.bool (patOk p)))]):=by kernel_rfl
theorem Zo143:Holds EE (143,Zk143):=by
 refine holds_of EE_ok Go.Proofs.Tryz.func143 Zk143 (by kernel_rfl) Zu143 (us_ok _) Za143 (fun(p:DPat) hp hb=> ?_)
 have hz0:=bd_ePat (x:=p) (hb _ m0)
 have hl_p_Kind:=hz0.1
 have hl_p_Args:=hz0.2
 clear hp hb
 rw[Zv143 p]
 dsimp only
 refine⟨⟨rfl,by omega,by omega,rfl⟩,?_⟩
 rintro⟨i,⟨bk,ba,bn,⟨⟩⟩,⟨⟩⟩ ⟨hbx,h1,h2,hR⟩
 cases hbx
 simp only
 refine if_cond (fun hc=> ?_) (fun hc=> ?_)
 ·have hc:=of_decide_eq_true hc
  rw[all_step _ _ zArg h1 (by omega)] at hR
  rw[wrap_i64 (by omega) (by omega)]
  refine⟨by omega,by omega,if_cond (fun h=>Lf_ff ?_) (fun h=>⟨⟨rfl,by omega,by omega,?_⟩,?_⟩)⟩
  ·simp only[patOk,←hR];simp at h;simp[h]
  ·rw[←hR];simp at h;simp[h]
  ·simp only[Zm143_2];omega
 ·have hc:=of_decide_eq_false hc
  rw[drop_end _ (by omega)] at hR
  simp only[patOk,←hR,List.all_nil]
  repeat' (refine if_cond (fun h=> ?_) (fun h=> ?_))
  all_goals (refine Lf_b ?_;grind)
def Zh143:HH:=⟨_,Zo143⟩
def Zk153:Con UU where
 α:=DPat
 md:=[.ro]
 of:=o1 (oA .ePat)
 ds:=fun x=>[dA .ePat x]
 pre:=fun _=>[]
 res:=fun p=>⟨[.one (.lit (.bool (patOk p)))],true,[]⟩
 law:=l1 (lA .ePat)
def Zi153_4(p:DPat):Int×Unit→Prop:=fun(i,_)=>0≤i∧i≤p.Args.length∧p.Args.length≤5∧nameOk p.Kind=true∧(p.Args.drop i.toNat).all argOk=p.Args.all argOk
def Zm153_4(p:DPat):Int×Unit→Nat:=fun(i,_)=>p.Args.length-i.toNat
def Za153:Zk153.α→Nat→Option (Ann UU):=fun p=>annL [(4,annOf [.slot 18 (18,1024) (.lit (.int .i64))] (fun _=>Zi153_4 p) (Zm153_4 p))]
def Zu153:=us [Zh174,Zh75]
theorem Zv153(p:DPat):goal EE Zu153 Go.Proofs.Tryz.f153 Zk153 Za153 p=(let x0:Int:=(p.Args.length:Int);
bif !nameOk p.Kind then Lf [DV.one (Cell.lit (Value.bool false))] [DV.one (Cell.lit (Value.bool (patOk p)))] else bif decide (x0>(5:Int)) then Lf [DV.one (Cell.lit (Value.bool false))] [DV.one (Cell.lit (Value.bool (patOk p)))] else Zi153_4 p ((0:Int),PUnit.unit)∧∀(y:Int×PUnit),Zi153_4 p y→bif decide (y.1<x0) then(0:Int)≤y.1∧Int.toNat y.1<List.length p.Args∧bif !argOk (List.getD p.Args (Int.toNat y.1) zArg) then Lf [DV.one (Cell.lit (Value.bool false))] [DV.one (Cell.lit (Value.bool (patOk p)))] else Zi153_4 p (IntKind.wrap IntKind.i64 (y.1+(1:Int)),PUnit.unit)∧Zm153_4 p (IntKind.wrap IntKind.i64 (y.1+(1:Int)),PUnit.unit)<Zm153_4 p y else Lf [DV.one (Cell.lit (Value.bool true))] [DV.one (Cell.lit (Value.bool (patOk p)))]):=by kernel_rfl
theorem Zo153:Holds EE (153,Zk153):=by
 refine holds_of EE_ok Go.Proofs.Tryz.func153 Zk153 (by kernel_rfl) Zu153 (us_ok _) Za153 (fun(p:DPat) hp hb=> ?_)
 have hz0:=bd_ePat (x:=p) (hb _ m0)
 have hl_p_Kind:=hz0.1
 have hl_p_Args:=hz0.2
 clear hp hb
 rw[Zv153 p]
 dsimp only
 refine if_cond (fun h=>Lf_ff ?_) (fun h=>if_cond (fun h'=>Lf_ff ?_) (fun h'=> ?_))
 ·simp only[patOk];simp at h;simp[h]
 ·have h':=of_decide_eq_true h';simp only[patOk];rw[decide_eq_false (show¬p.Args.length≤5 by omega)];simp
 have h':=of_decide_eq_false h'
 refine⟨⟨by omega,by omega,by omega,by simpa using h,rfl⟩,?_⟩
 rintro⟨i,⟨⟩⟩ ⟨h1,h2,h3,h4,hR⟩
 simp only
 refine if_cond (fun hc=> ?_) (fun hc=> ?_)
 ·have hc:=of_decide_eq_true hc
  rw[all_step _ _ zArg h1 (by omega)] at hR
  rw[wrap_i64 (by omega) (by omega)]
  refine⟨by omega,by omega,if_cond (fun h=>Lf_ff ?_) (fun h=>⟨⟨by omega,by omega,h3,h4,?_⟩,?_⟩)⟩
  ·simp only[patOk,←hR];simp at h;simp[h]
  ·rw[←hR];simp at h;simp[h]
  ·simp only[Zm153_4];omega
 ·have hc:=of_decide_eq_false hc
  rw[drop_end _ (by omega)] at hR
  refine Lf_tt ?_
  simp only[patOk,←hR,h4,decide_eq_true h3];rfl
def Zh153:HH:=⟨_,Zo153⟩
def Zk154:Con UU where
 α:=DArg
 md:=[.ro]
 of:=o1 (oA .eArg)
 ds:=fun x=>[dA .eArg x]
 pre:=fun _=>[]
 res:=fun a=>⟨[.one (.lit (.bool (termOk a)))],true,[]⟩
 law:=l1 (lA .eArg)
def Za154:Zk154.α→Nat→Option (Ann UU):=fun a=>annL []
def Zu154:=us [Zh174]
theorem Zv154(a:DArg):goal EE Zu154 Go.Proofs.Tryz.f154 Zk154 Za154 a=(bif a.K !=(3:Int) then Lb (argOk a) (termOk a) else Lb false (termOk a)):=by kernel_rfl
theorem Zo154:Holds EE (154,Zk154):=by
 refine holds_of EE_ok Go.Proofs.Tryz.func154 Zk154 (by kernel_rfl) Zu154 (us_ok _) Za154 (fun(a:DArg) hp hb=> ?_)
 have hz0:=bd_eArg (x:=a) (hb _ m0)
 have hl_a_S:=hz0.1
 have hl_a_V_S:=hz0.2
 clear hp hb
 rw[Zv154 a]
 simp only[termOk]
 repeat' (refine if_cond (fun h=> ?_) (fun h=> ?_))
 all_goals (refine Lf_b ?_;grind)
def Zh154:HH:=⟨_,Zo154⟩
def Zk187:Con UU where
 α:=DArg
 md:=[.ro]
 of:=o1 (oA .eArg)
 ds:=fun x=>[dA .eArg x]
 pre:=fun _=>[]
 res:=fun a=>⟨[.one (.lit (.bool (termOk a)))],true,[]⟩
 law:=l1 (lA .eArg)
def Za187:Zk187.α→Nat→Option (Ann UU):=fun a=>annL []
def Zu187:=us [Zh169]
theorem Zv187(a:DArg):goal EE Zu187 Go.Proofs.Tryz.f187 Zk187 Za187 a=(bif argOk a then Lb (a.K !=(3:Int)) (termOk a) else Lb false (termOk a)):=by kernel_rfl
theorem Zo187:Holds EE (187,Zk187):=by
 refine holds_of EE_ok Go.Proofs.Tryz.func187 Zk187 (by kernel_rfl) Zu187 (us_ok _) Za187 (fun(a:DArg) hp hb=> ?_)
 have hz0:=bd_eArg (x:=a) (hb _ m0)
 have hl_a_S:=hz0.1
 have hl_a_V_S:=hz0.2
 clear hp hb
 rw[Zv187 a]
 simp only[termOk]
 repeat' (refine if_cond (fun h=> ?_) (fun h=> ?_))
 all_goals (refine Lf_b ?_;grind)
def Zh187:HH:=⟨_,Zo187⟩
def Zk144:Con UU where
 α:=DCond
 md:=[.ro]
 of:=o1 (oA .eCond)
 ds:=fun x=>[dA .eCond x]
 pre:=fun _=>[]
 res:=fun c=>⟨[.one (.lit (.bool (kondOk c)))],true,[]⟩
 law:=l1 (lA .eCond)
def Za144:Zk144.α→Nat→Option (Ann UU):=fun c=>annL []
def Zu144:=us [Zh30,Zh169]
theorem Zv144(c:DCond):goal EE Zu144 Go.Proofs.Tryz.f144 Zk144 Za144 c=(bif decide ((1:Int)≤c.Op∧c.Op≤(3:Int)) then bif argOk c.L then bif argOk c.R then bif c.L.K !=(3:Int) then Lb (c.R.K !=(3:Int)) (kondOk c) else Lb false (kondOk c) else Lb false (kondOk c) else Lb false (kondOk c) else Lb false (kondOk c)):=by kernel_rfl
theorem Zo144:Holds EE (144,Zk144):=by
 refine holds_of EE_ok Go.Proofs.Tryz.func144 Zk144 (by kernel_rfl) Zu144 (us_ok _) Za144 (fun(c:DCond) hp hb=> ?_)
 have hz0:=bd_eCond (x:=c) (hb _ m0)
 have hl_c_L_S:=hz0.1
 have hl_c_L_V_S:=hz0.2.1
 have hl_c_R_S:=hz0.2.2.1
 have hl_c_R_V_S:=hz0.2.2.2
 clear hp hb
 rw[Zv144 c]
 simp only[kondOk,termOk]
 repeat' (refine if_cond (fun h=> ?_) (fun h=> ?_))
 all_goals (refine Lf_b ?_;grind)
def Zh144:HH:=⟨_,Zo144⟩
def Zk117:Con UU where
 α:=DCond
 md:=[.ro]
 of:=o1 (oA .eCond)
 ds:=fun x=>[dA .eCond x]
 pre:=fun _=>[]
 res:=fun c=>⟨[.one (.lit (.bool (kondOk c)))],true,[]⟩
 law:=l1 (lA .eCond)
def Za117:Zk117.α→Nat→Option (Ann UU):=fun c=>annL []
def Zu117:=us [Zh74,Zh154]
theorem Zv117(c:DCond):goal EE Zu117 Go.Proofs.Tryz.f117 Zk117 Za117 c=(bif decide ((1:Int)≤c.Op∧c.Op≤(3:Int)) then bif termOk c.L then Lb (termOk c.R) (kondOk c) else Lb false (kondOk c) else Lb false (kondOk c)):=by kernel_rfl
theorem Zo117:Holds EE (117,Zk117):=by
 refine holds_of EE_ok Go.Proofs.Tryz.func117 Zk117 (by kernel_rfl) Zu117 (us_ok _) Za117 (fun(c:DCond) hp hb=> ?_)
 have hz0:=bd_eCond (x:=c) (hb _ m0)
 have hl_c_L_S:=hz0.1
 have hl_c_L_V_S:=hz0.2.1
 have hl_c_R_S:=hz0.2.2.1
 have hl_c_R_V_S:=hz0.2.2.2
 clear hp hb
 rw[Zv117 c]
 simp only[kondOk]
 repeat' (refine if_cond (fun h=> ?_) (fun h=> ?_))
 all_goals (refine Lf_b ?_;grind)
def Zh117:HH:=⟨_,Zo117⟩
def Zk181:Con UU where
 α:=DExpr
 md:=[.ro]
 of:=o1 (oA .eExpr)
 ds:=fun x=>[dA .eExpr x]
 pre:=fun _=>[]
 res:=fun e=>⟨[.one (.lit (.bool (exprOk e)))],true,[]⟩
 law:=l1 (lA .eExpr)
def Za181:Zk181.α→Nat→Option (Ann UU):=fun e=>annL []
def Zu181:=us [Zh187]
theorem Zv181(e:DExpr):goal EE Zu181 Go.Proofs.Tryz.f181 Zk181 Za181 e=(let x0:Bool:=ByteArray.toList e.Op==ByteArray.toList {data:= #[(43:UInt8)]:ByteArray};
bif ByteArray.toList e.Op==ByteArray.toList {data:= #[]:ByteArray} then bif termOk e.L then Lf [DV.one (Cell.lit (Value.bool (e.R.K==(0:Int)&&(ByteArray.toList e.R.S==ByteArray.toList {data:= #[]:ByteArray}&&(e.R.V.K==(0:Int)&&(e.R.V.N==(0:Int)&&(ByteArray.toList e.R.V.S==ByteArray.toList {data:= #[]:ByteArray}&&true))&&true)))))] [DV.one (Cell.lit (Value.bool (exprOk e)))] else Lf [DV.one (Cell.lit (Value.bool false))] [DV.one (Cell.lit (Value.bool (exprOk e)))] else bif x0 then bif x0 then bif termOk e.L then Lf [DV.one (Cell.lit (Value.bool (termOk e.R)))] [DV.one (Cell.lit (Value.bool (exprOk e)))] else Lf [DV.one (Cell.lit (Value.bool false))] [DV.one (Cell.lit (Value.bool (exprOk e)))] else Lf [DV.one (Cell.lit (Value.bool false))] [DV.one (Cell.lit (Value.bool (exprOk e)))] else bif ByteArray.toList e.Op==ByteArray.toList {data:= #[(45:UInt8)]:ByteArray} then bif termOk e.L then Lf [DV.one (Cell.lit (Value.bool (termOk e.R)))] [DV.one (Cell.lit (Value.bool (exprOk e)))] else Lf [DV.one (Cell.lit (Value.bool false))] [DV.one (Cell.lit (Value.bool (exprOk e)))] else Lf [DV.one (Cell.lit (Value.bool false))] [DV.one (Cell.lit (Value.bool (exprOk e)))]):=by kernel_rfl
theorem Zo181:Holds EE (181,Zk181):=by
 refine holds_of EE_ok Go.Proofs.Tryz.func181 Zk181 (by kernel_rfl) Zu181 (us_ok _) Za181 (fun(e:DExpr) hp hb=> ?_)
 have hz0:=bd_eExpr (x:=e) (hb _ m0)
 have hl_e_Op:=hz0.1
 have hl_e_L_S:=hz0.2.1
 have hl_e_L_V_S:=hz0.2.2.1
 have hl_e_R_S:=hz0.2.2.2.1
 have hl_e_R_V_S:=hz0.2.2.2.2
 clear hp hb
 rw[Zv181 e]
 dsimp only
 have e:∀s:ByteArray,(ByteArray.toList s==ByteArray.toList {data:= #[]})=decide (s=noBytes):=fun s=>toList_beq _ _
 have ea:∀a:DArg,(a.K==0&&(ByteArray.toList a.S==ByteArray.toList {data:= #[]}&&(a.V.K==0&&(a.V.N==0&&(ByteArray.toList a.V.S==ByteArray.toList {data:= #[]}&&true))&&true)))=decide (a=zArg):=fun a=>argR_beq a zArg
 have e1:∀s:ByteArray,(ByteArray.toList s==ByteArray.toList {data:= #[43]})=decide (s=bPlus):=fun s=>toList_beq _ _
 have e2:∀s:ByteArray,(ByteArray.toList s==ByteArray.toList {data:= #[45]})=decide (s=bMinus):=fun s=>toList_beq _ _
 simp only[ea]
 simp only[e,e1,e2,exprOk]
 repeat' (refine if_cond (fun h=> ?_) (fun h=> ?_))
 all_goals (refine Lf_b ?_;grind)
def Zh181:HH:=⟨_,Zo181⟩
def Zk175:Con UU where
 α:=DExpr
 md:=[.ro]
 of:=o1 (oA .eExpr)
 ds:=fun x=>[dA .eExpr x]
 pre:=fun _=>[]
 res:=fun e=>⟨[.one (.lit (.bool (exprOk e)))],true,[]⟩
 law:=l1 (lA .eExpr)
def Za175:Zk175.α→Nat→Option (Ann UU):=fun e=>annL []
def Zu175:=us [Zh154]
theorem Zv175(e:DExpr):goal EE Zu175 Go.Proofs.Tryz.f175 Zk175 Za175 e=(let x0:Bool:=ByteArray.toList e.Op==ByteArray.toList {data:= #[(43:UInt8)]:ByteArray};
bif ByteArray.toList e.Op==ByteArray.toList {data:= #[]:ByteArray} then bif termOk e.L then Lf [DV.one (Cell.lit (Value.bool (e.R.K==(0:Int)&&(ByteArray.toList e.R.S==ByteArray.toList {data:= #[]:ByteArray}&&(e.R.V.K==(0:Int)&&(e.R.V.N==(0:Int)&&(ByteArray.toList e.R.V.S==ByteArray.toList {data:= #[]:ByteArray}&&true))&&true)))))] [DV.one (Cell.lit (Value.bool (exprOk e)))] else Lf [DV.one (Cell.lit (Value.bool false))] [DV.one (Cell.lit (Value.bool (exprOk e)))] else bif x0 then bif x0 then bif termOk e.L then Lf [DV.one (Cell.lit (Value.bool (termOk e.R)))] [DV.one (Cell.lit (Value.bool (exprOk e)))] else Lf [DV.one (Cell.lit (Value.bool false))] [DV.one (Cell.lit (Value.bool (exprOk e)))] else Lf [DV.one (Cell.lit (Value.bool false))] [DV.one (Cell.lit (Value.bool (exprOk e)))] else bif ByteArray.toList e.Op==ByteArray.toList {data:= #[(45:UInt8)]:ByteArray} then bif termOk e.L then Lf [DV.one (Cell.lit (Value.bool (termOk e.R)))] [DV.one (Cell.lit (Value.bool (exprOk e)))] else Lf [DV.one (Cell.lit (Value.bool false))] [DV.one (Cell.lit (Value.bool (exprOk e)))] else Lf [DV.one (Cell.lit (Value.bool false))] [DV.one (Cell.lit (Value.bool (exprOk e)))]):=by kernel_rfl
theorem Zo175:Holds EE (175,Zk175):=by
 refine holds_of EE_ok Go.Proofs.Tryz.func175 Zk175 (by kernel_rfl) Zu175 (us_ok _) Za175 (fun(e:DExpr) hp hb=> ?_)
 have hz0:=bd_eExpr (x:=e) (hb _ m0)
 have hl_e_Op:=hz0.1
 have hl_e_L_S:=hz0.2.1
 have hl_e_L_V_S:=hz0.2.2.1
 have hl_e_R_S:=hz0.2.2.2.1
 have hl_e_R_V_S:=hz0.2.2.2.2
 clear hp hb
 rw[Zv175 e]
 dsimp only
 have e:∀s:ByteArray,(ByteArray.toList s==ByteArray.toList {data:= #[]})=decide (s=noBytes):=fun s=>toList_beq _ _
 have ea:∀a:DArg,(a.K==0&&(ByteArray.toList a.S==ByteArray.toList {data:= #[]}&&(a.V.K==0&&(a.V.N==0&&(ByteArray.toList a.V.S==ByteArray.toList {data:= #[]}&&true))&&true)))=decide (a=zArg):=fun a=>argR_beq a zArg
 have e1:∀s:ByteArray,(ByteArray.toList s==ByteArray.toList {data:= #[43]})=decide (s=bPlus):=fun s=>toList_beq _ _
 have e2:∀s:ByteArray,(ByteArray.toList s==ByteArray.toList {data:= #[45]})=decide (s=bMinus):=fun s=>toList_beq _ _
 simp only[ea]
 simp only[e,e1,e2,exprOk]
 repeat' (refine if_cond (fun h=> ?_) (fun h=> ?_))
 all_goals (refine Lf_b ?_;grind)
def Zh175:HH:=⟨_,Zo175⟩
def Zk170:Con UU where
 α:=(List DExpr)
 md:=[.ro]
 of:=o1 (oL .eExpr)
 ds:=fun x=>[dL .eExpr x]
 pre:=fun _=>[]
 res:=fun es=>⟨[.one (.lit (.bool (exprsOk es)))],true,[]⟩
 law:=l1 (lL .eExpr)
def Zi170_2(es:(List DExpr)):Int×Unit→Prop:=fun(i,_)=>0≤i∧i≤es.length∧(es.drop i.toNat).all exprOk=es.all exprOk
def Zm170_2(es:(List DExpr)):Int×Unit→Nat:=fun(i,_)=>es.length-i.toNat
def Za170:Zk170.α→Nat→Option (Ann UU):=fun es=>annL [(2,annOf [.slot 3 (3,1024) (.lit (.int .i64))] (fun _=>Zi170_2 es) (Zm170_2 es))]
def Zu170:=us [Zh181]
theorem Zv170(es:(List DExpr)):goal EE Zu170 Go.Proofs.Tryz.f170 Zk170 Za170 es=(let x0:Int:=(es.length:Int);
Zi170_2 es ((0:Int),PUnit.unit)∧∀(y:Int×PUnit),Zi170_2 es y→bif decide (y.1<x0) then(0:Int)≤y.1∧Int.toNat y.1<List.length es∧bif !exprOk (List.getD es (Int.toNat y.1) zExpr) then Lf [DV.one (Cell.lit (Value.bool false))] [DV.one (Cell.lit (Value.bool (exprsOk es)))] else Zi170_2 es (IntKind.wrap IntKind.i64 (y.1+(1:Int)),PUnit.unit)∧Zm170_2 es (IntKind.wrap IntKind.i64 (y.1+(1:Int)),PUnit.unit)<Zm170_2 es y else Lf [DV.one (Cell.lit (Value.bool (decide (x0≤(5:Int)))))] [DV.one (Cell.lit (Value.bool (exprsOk es)))]):=by kernel_rfl
theorem Zo170:Holds EE (170,Zk170):=by
 refine holds_of EE_ok Go.Proofs.Tryz.func170 Zk170 (by kernel_rfl) Zu170 (us_ok _) Za170 (fun(es:(List DExpr)) hp hb=> ?_)
 have hl_es:es.length≤9223372036854775807:=bdL (hb _ m0)
 clear hp hb
 rw[Zv170 es]
 dsimp only
 refine⟨⟨by omega,by omega,rfl⟩,?_⟩
 rintro⟨i,⟨⟩⟩ ⟨h1,h2,hR⟩
 simp only
 refine if_cond (fun hc=> ?_) (fun hc=> ?_)
 ·have hc:=of_decide_eq_true hc
  rw[all_step _ _ zExpr h1 (by omega)] at hR
  rw[wrap_i64 (by omega) (by omega)]
  refine⟨by omega,by omega,if_cond (fun h=>Lf_ff ?_) (fun h=>⟨⟨by omega,by omega,?_⟩,?_⟩)⟩
  ·simp only[exprsOk,←hR];simp at h;simp[h]
  ·rw[←hR];simp at h;simp[h]
  ·simp only[Zm170_2];omega
 ·have hc:=of_decide_eq_false hc
  rw[drop_end _ (by omega)] at hR
  refine Lf_b ?_
  simp only[exprsOk,←hR];simp;omega
def Zh170:HH:=⟨_,Zo170⟩
def Zk155:Con UU where
 α:=DAct
 md:=[.ro]
 of:=o1 (oA .eAct)
 ds:=fun x=>[dA .eAct x]
 pre:=fun _=>[]
 res:=fun a=>⟨[.one (.lit (.bool (nameOk a.Name&&exprsOk a.Args)))],true,[]⟩
 law:=l1 (lA .eAct)
def Zi155_4(a:DAct):Int×Unit→Prop:=fun(i,_)=>0≤i∧i≤a.Args.length∧a.Args.length≤5∧nameOk a.Name=true∧(a.Args.drop i.toNat).all exprOk=a.Args.all exprOk
def Zm155_4(a:DAct):Int×Unit→Nat:=fun(i,_)=>a.Args.length-i.toNat
def Za155:Zk155.α→Nat→Option (Ann UU):=fun a=>annL [(4,annOf [.slot 18 (18,1024) (.lit (.int .i64))] (fun _=>Zi155_4 a) (Zm155_4 a))]
def Zu155:=us [Zh175,Zh75]
theorem Zv155(a:DAct):goal EE Zu155 Go.Proofs.Tryz.f155 Zk155 Za155 a=(let x0:Int:=(a.Args.length:Int);
bif !nameOk a.Name then Lf [DV.one (Cell.lit (Value.bool false))] [DV.one (Cell.lit (Value.bool (nameOk a.Name&&exprsOk a.Args)))] else bif decide (x0>(5:Int)) then Lf [DV.one (Cell.lit (Value.bool false))] [DV.one (Cell.lit (Value.bool (nameOk a.Name&&exprsOk a.Args)))] else Zi155_4 a ((0:Int),PUnit.unit)∧∀(y:Int×PUnit),Zi155_4 a y→bif decide (y.1<x0) then(0:Int)≤y.1∧Int.toNat y.1<List.length a.Args∧bif !exprOk (List.getD a.Args (Int.toNat y.1) zExpr) then Lf [DV.one (Cell.lit (Value.bool false))] [DV.one (Cell.lit (Value.bool (nameOk a.Name&&exprsOk a.Args)))] else Zi155_4 a (IntKind.wrap IntKind.i64 (y.1+(1:Int)),PUnit.unit)∧Zm155_4 a (IntKind.wrap IntKind.i64 (y.1+(1:Int)),PUnit.unit)<Zm155_4 a y else Lf [DV.one (Cell.lit (Value.bool true))] [DV.one (Cell.lit (Value.bool (nameOk a.Name&&exprsOk a.Args)))]):=by kernel_rfl
theorem Zo155:Holds EE (155,Zk155):=by
 refine holds_of EE_ok Go.Proofs.Tryz.func155 Zk155 (by kernel_rfl) Zu155 (us_ok _) Za155 (fun(a:DAct) hp hb=> ?_)
 have hz0:=bd_eAct (x:=a) (hb _ m0)
 have hl_a_Name:=hz0.1
 have hl_a_Args:=hz0.2.1
 have hl_a_Undo:=hz0.2.2
 clear hp hb
 rw[Zv155 a]
 dsimp only
 refine if_cond (fun h=>Lf_ff ?_) (fun h=>if_cond (fun h'=>Lf_ff ?_) (fun h'=> ?_))
 ·simp at h;simp[h]
 ·have h':=of_decide_eq_true h';simp only[exprsOk];rw[decide_eq_false (show¬a.Args.length≤5 by omega)];simp
 have h':=of_decide_eq_false h'
 refine⟨⟨by omega,by omega,by omega,by simpa using h,rfl⟩,?_⟩
 rintro⟨i,⟨⟩⟩ ⟨h1,h2,h3,h4,hR⟩
 simp only
 refine if_cond (fun hc=> ?_) (fun hc=> ?_)
 ·have hc:=of_decide_eq_true hc
  rw[all_step _ _ zExpr h1 (by omega)] at hR
  rw[wrap_i64 (by omega) (by omega)]
  refine⟨by omega,by omega,if_cond (fun h=>Lf_ff ?_) (fun h=>⟨⟨by omega,by omega,h3,h4,?_⟩,?_⟩)⟩
  ·simp only[exprsOk,←hR];simp at h;simp[h]
  ·rw[←hR];simp at h;simp[h]
  ·simp only[Zm155_4];omega
 ·have hc:=of_decide_eq_false hc
  rw[drop_end _ (by omega)] at hR
  refine Lf_tt ?_
  simp only[exprsOk,←hR,h4,decide_eq_true h3];rfl
def Zh155:HH:=⟨_,Zo155⟩
def Zk146:Con UU where
 α:=DAct
 md:=[.ro]
 of:=o1 (oA .eAct)
 ds:=fun x=>[dA .eAct x]
 pre:=fun _=>[]
 res:=fun a=>⟨[.one (.lit (.bool (actOk a)))],true,[]⟩
 law:=l1 (lA .eAct)
def Za146:Zk146.α→Nat→Option (Ann UU):=fun a=>annL []
def Zu146:=us [Zh30,Zh68,Zh170]
theorem Zv146(a:DAct):goal EE Zu146 Go.Proofs.Tryz.f146 Zk146 Za146 a=(let x0:Bool:=ByteArray.toList a.Undo==ByteArray.toList {data:= #[]:ByteArray};
let x1:Bool:=a.Kind==(5:Int);
let x2:Bool:=a.N==(0:Int);
bif ByteArray.toList a.Name==ByteArray.toList {data:= #[]:ByteArray} then bif (↑(List.length a.Args):Int)==(0:Int) then bif a.Kind==(1:Int) then bif nameOk a.Name then bif exprsOk a.Args then bif x2 then Lf [DV.one (Cell.lit (Value.bool x0))] [DV.one (Cell.lit (Value.bool (actOk a)))] else Lf [DV.one (Cell.lit (Value.bool false))] [DV.one (Cell.lit (Value.bool (actOk a)))] else Lf [DV.one (Cell.lit (Value.bool false))] [DV.one (Cell.lit (Value.bool (actOk a)))] else Lf [DV.one (Cell.lit (Value.bool false))] [DV.one (Cell.lit (Value.bool (actOk a)))] else bif a.Kind==(3:Int) then bif nameOk a.Name then bif exprsOk a.Args then bif x2 then bif x0 then Lf [DV.one (Cell.lit (Value.bool true))] [DV.one (Cell.lit (Value.bool (actOk a)))] else Lf [DV.one (Cell.lit (Value.bool (nameOk a.Undo)))] [DV.one (Cell.lit (Value.bool (actOk a)))] else Lf [DV.one (Cell.lit (Value.bool false))] [DV.one (Cell.lit (Value.bool (actOk a)))] else Lf [DV.one (Cell.lit (Value.bool false))] [DV.one (Cell.lit (Value.bool (actOk a)))] else Lf [DV.one (Cell.lit (Value.bool false))] [DV.one (Cell.lit (Value.bool (actOk a)))] else bif a.Kind==(4:Int) then bif nameOk a.Name then bif exprsOk a.Args then bif decide ((0:Int)≤a.N∧a.N≤(100000:Int)) then Lf [DV.one (Cell.lit (Value.bool x0))] [DV.one (Cell.lit (Value.bool (actOk a)))] else Lf [DV.one (Cell.lit (Value.bool false))] [DV.one (Cell.lit (Value.bool (actOk a)))] else Lf [DV.one (Cell.lit (Value.bool false))] [DV.one (Cell.lit (Value.bool (actOk a)))] else Lf [DV.one (Cell.lit (Value.bool false))] [DV.one (Cell.lit (Value.bool (actOk a)))] else bif a.Kind==(2:Int) then bif x0 then Lf [DV.one (Cell.lit (Value.bool (decide ((0:Int)≤a.N∧a.N≤(7:Int)))))] [DV.one (Cell.lit (Value.bool (actOk a)))] else Lf [DV.one (Cell.lit (Value.bool false))] [DV.one (Cell.lit (Value.bool (actOk a)))] else bif x1 then bif x1 then bif x0 then Lf [DV.one (Cell.lit (Value.bool x2))] [DV.one (Cell.lit (Value.bool (actOk a)))] else Lf [DV.one (Cell.lit (Value.bool false))] [DV.one (Cell.lit (Value.bool (actOk a)))] else Lf [DV.one (Cell.lit (Value.bool false))] [DV.one (Cell.lit (Value.bool (actOk a)))] else bif a.Kind==(6:Int) then bif x0 then Lf [DV.one (Cell.lit (Value.bool x2))] [DV.one (Cell.lit (Value.bool (actOk a)))] else Lf [DV.one (Cell.lit (Value.bool false))] [DV.one (Cell.lit (Value.bool (actOk a)))] else Lf [DV.one (Cell.lit (Value.bool false))] [DV.one (Cell.lit (Value.bool (actOk a)))] else bif a.Kind==(1:Int) then bif nameOk a.Name then bif exprsOk a.Args then bif x2 then Lf [DV.one (Cell.lit (Value.bool x0))] [DV.one (Cell.lit (Value.bool (actOk a)))] else Lf [DV.one (Cell.lit (Value.bool false))] [DV.one (Cell.lit (Value.bool (actOk a)))] else Lf [DV.one (Cell.lit (Value.bool false))] [DV.one (Cell.lit (Value.bool (actOk a)))] else Lf [DV.one (Cell.lit (Value.bool false))] [DV.one (Cell.lit (Value.bool (actOk a)))] else bif a.Kind==(3:Int) then bif nameOk a.Name then bif exprsOk a.Args then bif x2 then bif x0 then Lf [DV.one (Cell.lit (Value.bool true))] [DV.one (Cell.lit (Value.bool (actOk a)))] else Lf [DV.one (Cell.lit (Value.bool (nameOk a.Undo)))] [DV.one (Cell.lit (Value.bool (actOk a)))] else Lf [DV.one (Cell.lit (Value.bool false))] [DV.one (Cell.lit (Value.bool (actOk a)))] else Lf [DV.one (Cell.lit (Value.bool false))] [DV.one (Cell.lit (Value.bool (actOk a)))] else Lf [DV.one (Cell.lit (Value.bool false))] [DV.one (Cell.lit (Value.bool (actOk a)))] else bif a.Kind==(4:Int) then bif nameOk a.Name then bif exprsOk a.Args then bif decide ((0:Int)≤a.N∧a.N≤(100000:Int)) then Lf [DV.one (Cell.lit (Value.bool x0))] [DV.one (Cell.lit (Value.bool (actOk a)))] else Lf [DV.one (Cell.lit (Value.bool false))] [DV.one (Cell.lit (Value.bool (actOk a)))] else Lf [DV.one (Cell.lit (Value.bool false))] [DV.one (Cell.lit (Value.bool (actOk a)))] else Lf [DV.one (Cell.lit (Value.bool false))] [DV.one (Cell.lit (Value.bool (actOk a)))] else bif a.Kind==(2:Int) then Lf [DV.one (Cell.lit (Value.bool false))] [DV.one (Cell.lit (Value.bool (actOk a)))] else bif x1 then bif x1 then Lf [DV.one (Cell.lit (Value.bool false))] [DV.one (Cell.lit (Value.bool (actOk a)))] else Lf [DV.one (Cell.lit (Value.bool false))] [DV.one (Cell.lit (Value.bool (actOk a)))] else bif a.Kind==(6:Int) then Lf [DV.one (Cell.lit (Value.bool false))] [DV.one (Cell.lit (Value.bool (actOk a)))] else Lf [DV.one (Cell.lit (Value.bool false))] [DV.one (Cell.lit (Value.bool (actOk a)))] else bif a.Kind==(1:Int) then bif nameOk a.Name then bif exprsOk a.Args then bif x2 then Lf [DV.one (Cell.lit (Value.bool x0))] [DV.one (Cell.lit (Value.bool (actOk a)))] else Lf [DV.one (Cell.lit (Value.bool false))] [DV.one (Cell.lit (Value.bool (actOk a)))] else Lf [DV.one (Cell.lit (Value.bool false))] [DV.one (Cell.lit (Value.bool (actOk a)))] else Lf [DV.one (Cell.lit (Value.bool false))] [DV.one (Cell.lit (Value.bool (actOk a)))] else bif a.Kind==(3:Int) then bif nameOk a.Name then bif exprsOk a.Args then bif x2 then bif x0 then Lf [DV.one (Cell.lit (Value.bool true))] [DV.one (Cell.lit (Value.bool (actOk a)))] else Lf [DV.one (Cell.lit (Value.bool (nameOk a.Undo)))] [DV.one (Cell.lit (Value.bool (actOk a)))] else Lf [DV.one (Cell.lit (Value.bool false))] [DV.one (Cell.lit (Value.bool (actOk a)))] else Lf [DV.one (Cell.lit (Value.bool false))] [DV.one (Cell.lit (Value.bool (actOk a)))] else Lf [DV.one (Cell.lit (Value.bool false))] [DV.one (Cell.lit (Value.bool (actOk a)))] else bif a.Kind==(4:Int) then bif nameOk a.Name then bif exprsOk a.Args then bif decide ((0:Int)≤a.N∧a.N≤(100000:Int)) then Lf [DV.one (Cell.lit (Value.bool x0))] [DV.one (Cell.lit (Value.bool (actOk a)))] else Lf [DV.one (Cell.lit (Value.bool false))] [DV.one (Cell.lit (Value.bool (actOk a)))] else Lf [DV.one (Cell.lit (Value.bool false))] [DV.one (Cell.lit (Value.bool (actOk a)))] else Lf [DV.one (Cell.lit (Value.bool false))] [DV.one (Cell.lit (Value.bool (actOk a)))] else bif a.Kind==(2:Int) then Lf [DV.one (Cell.lit (Value.bool false))] [DV.one (Cell.lit (Value.bool (actOk a)))] else bif x1 then bif x1 then Lf [DV.one (Cell.lit (Value.bool false))] [DV.one (Cell.lit (Value.bool (actOk a)))] else Lf [DV.one (Cell.lit (Value.bool false))] [DV.one (Cell.lit (Value.bool (actOk a)))] else bif a.Kind==(6:Int) then Lf [DV.one (Cell.lit (Value.bool false))] [DV.one (Cell.lit (Value.bool (actOk a)))] else Lf [DV.one (Cell.lit (Value.bool false))] [DV.one (Cell.lit (Value.bool (actOk a)))]):=by kernel_rfl
theorem Zo146:Holds EE (146,Zk146):=by
 refine holds_of EE_ok Go.Proofs.Tryz.func146 Zk146 (by kernel_rfl) Zu146 (us_ok _) Za146 (fun(a:DAct) hp hb=> ?_)
 have hz0:=bd_eAct (x:=a) (hb _ m0)
 have hl_a_Name:=hz0.1
 have hl_a_Args:=hz0.2.1
 have hl_a_Undo:=hz0.2.2
 clear hp hb
 rw[Zv146 a]
 dsimp only
 have e:∀s:ByteArray,(ByteArray.toList s==ByteArray.toList {data:= #[]})=decide (s=noBytes):=fun s=>toList_beq _ _
 simp only[e,actOk,bareA,undoOk]
 repeat' (refine if_cond (fun h=> ?_) (fun h=> ?_))
 all_goals (refine Lf_b ?_;grind)
def Zh146:HH:=⟨_,Zo146⟩
def Zk118:Con UU where
 α:=DAct
 md:=[.ro]
 of:=o1 (oA .eAct)
 ds:=fun x=>[dA .eAct x]
 pre:=fun _=>[]
 res:=fun a=>⟨[.one (.lit (.bool (actOk a)))],true,[]⟩
 law:=l1 (lA .eAct)
def Za118:Zk118.α→Nat→Option (Ann UU):=fun a=>annL []
def Zu118:=us [Zh74,Zh155,Zh156]
theorem Zv118(a:DAct):goal EE Zu118 Go.Proofs.Tryz.f118 Zk118 Za118 a=(let x0:Bool:=a.Kind==(5:Int);
let x1:Bool:=nameOk a.Name&&exprsOk a.Args;
bif ByteArray.toList a.Name==ByteArray.toList {data:= #[]:ByteArray} then bif a.Kind==(1:Int) then bif x1 then bif a.N==(0:Int) then Lf [DV.one (Cell.lit (Value.bool (ByteArray.toList a.Undo==ByteArray.toList {data:= #[]:ByteArray})))] [DV.one (Cell.lit (Value.bool (actOk a)))] else Lf [DV.one (Cell.lit (Value.bool false))] [DV.one (Cell.lit (Value.bool (actOk a)))] else Lf [DV.one (Cell.lit (Value.bool false))] [DV.one (Cell.lit (Value.bool (actOk a)))] else bif a.Kind==(2:Int) then bif (↑(List.length a.Args):Int)==(0:Int) then bif decide ((0:Int)≤a.N∧a.N≤(7:Int)) then Lf [DV.one (Cell.lit (Value.bool (ByteArray.toList a.Undo==ByteArray.toList {data:= #[]:ByteArray})))] [DV.one (Cell.lit (Value.bool (actOk a)))] else Lf [DV.one (Cell.lit (Value.bool false))] [DV.one (Cell.lit (Value.bool (actOk a)))] else Lf [DV.one (Cell.lit (Value.bool false))] [DV.one (Cell.lit (Value.bool (actOk a)))] else bif a.Kind==(3:Int) then bif x1 then bif a.N==(0:Int) then Lf [DV.one (Cell.lit (Value.bool (undoOk a.Undo)))] [DV.one (Cell.lit (Value.bool (actOk a)))] else Lf [DV.one (Cell.lit (Value.bool false))] [DV.one (Cell.lit (Value.bool (actOk a)))] else Lf [DV.one (Cell.lit (Value.bool false))] [DV.one (Cell.lit (Value.bool (actOk a)))] else bif a.Kind==(4:Int) then bif x1 then bif decide ((0:Int)≤a.N∧a.N≤(100000:Int)) then Lf [DV.one (Cell.lit (Value.bool (ByteArray.toList a.Undo==ByteArray.toList {data:= #[]:ByteArray})))] [DV.one (Cell.lit (Value.bool (actOk a)))] else Lf [DV.one (Cell.lit (Value.bool false))] [DV.one (Cell.lit (Value.bool (actOk a)))] else Lf [DV.one (Cell.lit (Value.bool false))] [DV.one (Cell.lit (Value.bool (actOk a)))] else bif x0 then bif x0 then bif (↑(List.length a.Args):Int)==(0:Int) then bif a.N==(0:Int) then Lf [DV.one (Cell.lit (Value.bool (ByteArray.toList a.Undo==ByteArray.toList {data:= #[]:ByteArray})))] [DV.one (Cell.lit (Value.bool (actOk a)))] else Lf [DV.one (Cell.lit (Value.bool false))] [DV.one (Cell.lit (Value.bool (actOk a)))] else Lf [DV.one (Cell.lit (Value.bool false))] [DV.one (Cell.lit (Value.bool (actOk a)))] else Lf [DV.one (Cell.lit (Value.bool false))] [DV.one (Cell.lit (Value.bool (actOk a)))] else bif a.Kind==(6:Int) then bif (↑(List.length a.Args):Int)==(0:Int) then bif a.N==(0:Int) then Lf [DV.one (Cell.lit (Value.bool (ByteArray.toList a.Undo==ByteArray.toList {data:= #[]:ByteArray})))] [DV.one (Cell.lit (Value.bool (actOk a)))] else Lf [DV.one (Cell.lit (Value.bool false))] [DV.one (Cell.lit (Value.bool (actOk a)))] else Lf [DV.one (Cell.lit (Value.bool false))] [DV.one (Cell.lit (Value.bool (actOk a)))] else Lf [DV.one (Cell.lit (Value.bool false))] [DV.one (Cell.lit (Value.bool (actOk a)))] else bif a.Kind==(1:Int) then bif x1 then bif a.N==(0:Int) then Lf [DV.one (Cell.lit (Value.bool (ByteArray.toList a.Undo==ByteArray.toList {data:= #[]:ByteArray})))] [DV.one (Cell.lit (Value.bool (actOk a)))] else Lf [DV.one (Cell.lit (Value.bool false))] [DV.one (Cell.lit (Value.bool (actOk a)))] else Lf [DV.one (Cell.lit (Value.bool false))] [DV.one (Cell.lit (Value.bool (actOk a)))] else bif a.Kind==(2:Int) then Lf [DV.one (Cell.lit (Value.bool false))] [DV.one (Cell.lit (Value.bool (actOk a)))] else bif a.Kind==(3:Int) then bif x1 then bif a.N==(0:Int) then Lf [DV.one (Cell.lit (Value.bool (undoOk a.Undo)))] [DV.one (Cell.lit (Value.bool (actOk a)))] else Lf [DV.one (Cell.lit (Value.bool false))] [DV.one (Cell.lit (Value.bool (actOk a)))] else Lf [DV.one (Cell.lit (Value.bool false))] [DV.one (Cell.lit (Value.bool (actOk a)))] else bif a.Kind==(4:Int) then bif x1 then bif decide ((0:Int)≤a.N∧a.N≤(100000:Int)) then Lf [DV.one (Cell.lit (Value.bool (ByteArray.toList a.Undo==ByteArray.toList {data:= #[]:ByteArray})))] [DV.one (Cell.lit (Value.bool (actOk a)))] else Lf [DV.one (Cell.lit (Value.bool false))] [DV.one (Cell.lit (Value.bool (actOk a)))] else Lf [DV.one (Cell.lit (Value.bool false))] [DV.one (Cell.lit (Value.bool (actOk a)))] else bif x0 then bif x0 then Lf [DV.one (Cell.lit (Value.bool false))] [DV.one (Cell.lit (Value.bool (actOk a)))] else Lf [DV.one (Cell.lit (Value.bool false))] [DV.one (Cell.lit (Value.bool (actOk a)))] else bif a.Kind==(6:Int) then Lf [DV.one (Cell.lit (Value.bool false))] [DV.one (Cell.lit (Value.bool (actOk a)))] else Lf [DV.one (Cell.lit (Value.bool false))] [DV.one (Cell.lit (Value.bool (actOk a)))]):=by kernel_rfl
theorem Zo118:Holds EE (118,Zk118):=by
 refine holds_of EE_ok Go.Proofs.Tryz.func118 Zk118 (by kernel_rfl) Zu118 (us_ok _) Za118 (fun(a:DAct) hp hb=> ?_)
 have hz0:=bd_eAct (x:=a) (hb _ m0)
 have hl_a_Name:=hz0.1
 have hl_a_Args:=hz0.2.1
 have hl_a_Undo:=hz0.2.2
 clear hp hb
 rw[Zv118 a]
 dsimp only
 have e:∀s:ByteArray,(ByteArray.toList s==ByteArray.toList {data:= #[]})=decide (s=noBytes):=fun s=>toList_beq _ _
 simp only[e,actOk,bareA,undoOk]
 repeat' (refine if_cond (fun h=> ?_) (fun h=> ?_))
 all_goals (refine Lf_b ?_;grind)
def Zh118:HH:=⟨_,Zo118⟩
def hasS(l:List ByteArray)(s:ByteArray):Bool:=l.any fun t=>decide (t=s)
theorem hasS_iff{l:List ByteArray}{s:ByteArray}:hasS l s=true↔s∈l:=by
 simp only[hasS,List.any_eq_true,decide_eq_true_eq]
 exact⟨fun⟨t,h1,h2⟩=>h2▸h1,fun h=>⟨s,h,rfl⟩⟩
def addOnce(l:List ByteArray)(s:ByteArray):List ByteArray:=if hasS l s then l else l++[s]
def addVar(l:List ByteArray)(a:DArg):List ByteArray:=if a.K=1 then addOnce l a.S else l
def addVars(l:List ByteArray)(xs:List DArg):List ByteArray:=xs.foldl addVar l
theorem addOnce_mem{l:List ByteArray}{s t:ByteArray}:t∈addOnce l s↔t∈l∨t=s:=by
 unfold addOnce;split
 ·rename_i h
  exact⟨.inl,fun h'=>h'.elim id (fun e=>e▸hasS_iff.1 h)⟩
 ·simp
theorem addOnce_len(l:List ByteArray)(s:ByteArray):(addOnce l s).length≤l.length+1:=by
 unfold addOnce;split
 ·omega
 ·simp
theorem addVar_mem{l:List ByteArray}{a:DArg}{t:ByteArray}:t∈addVar l a↔t∈l∨(a.K=1∧t=a.S):=by
 unfold addVar;split
 ·rename_i h;rw[addOnce_mem];simp[h]
 ·rename_i h;simp[h]
theorem addVar_len(l:List ByteArray)(a:DArg):(addVar l a).length≤l.length+1:=by
 unfold addVar;split
 ·exact addOnce_len _ _
 ·omega
theorem addVars_mem{t:ByteArray}:∀{xs:List DArg}{l:List ByteArray},t∈addVars l xs↔t∈l∨∃a∈xs,a.K=1∧t=a.S
 |[],l=>by simp[addVars]
 |a::xs,l=>by
  show t∈addVars (addVar l a) xs↔_
  rw[addVars_mem,addVar_mem]
  simp only[List.mem_cons,exists_eq_or_imp,or_assoc]
theorem addVars_len:∀(xs:List DArg)(l:List ByteArray),(addVars l xs).length≤l.length+xs.length
 |[],l=>Nat.le_refl _
 |a::xs,l=>by
  have h1:=addVars_len xs (addVar l a)
  have h2:=addVar_len l a
  show(addVars (addVar l a) xs).length≤_
  simp only[List.length_cons];omega
theorem addVars_step(l:List ByteArray)(xs:List DArg){i:Int}(h0:0≤i)(h:i<xs.length):addVars l (xs.take (i+1).toNat)=addVar (addVars l (xs.take i.toNat)) (List.getD xs i.toNat zArg):=by
 rw[←take_step xs zArg h0 h]
 simp only[addVars,List.foldl_append,List.foldl_cons,List.foldl_nil]
def posVar(l:List ByteArray)(p:DPat):List ByteArray:=if p.Not then l else addVars l p.Args
def posVars(ps:List DPat):List ByteArray:=ps.foldl posVar []
theorem foldl_step{α β:Type}(f:β→α→β)(b:β)(l:List α)(z:α){i:Int}(h0:0≤i)(h:i<l.length):(l.take (i+1).toNat).foldl f b=f ((l.take i.toNat).foldl f b) (List.getD l i.toNat z):=by
 rw[←take_step l z h0 h]
 simp only[List.foldl_append,List.foldl_cons,List.foldl_nil]
def patArgs(ps:List DPat):Nat:=(ps.map fun p=>p.Args.length).sum
def isBound(ps:List DPat)(t:ByteArray):Prop:=∃p∈ps,p.Not=false∧∃a∈p.Args,a.K=1∧t=a.S
theorem posVar_mem{l:List ByteArray}{p:DPat}{t:ByteArray}:t∈posVar l p↔t∈l∨(p.Not=false∧∃a∈p.Args,a.K=1∧t=a.S):=by
 unfold posVar
 cases h:p.Not
 ·simp only[Bool.false_eq_true,if_false];rw[addVars_mem];simp
 ·simp
theorem posVars_mem0{t:ByteArray}:∀{ps:List DPat}{l:List ByteArray},t∈ps.foldl posVar l↔t∈l∨isBound ps t
 |[],l=>by simp[isBound]
 |p::ps,l=>by
  show t∈ps.foldl posVar (posVar l p)↔_
  rw[posVars_mem0,posVar_mem]
  simp only[isBound,List.mem_cons,exists_eq_or_imp,or_assoc]
theorem posVars_mem{ps:List DPat}{t:ByteArray}:t∈posVars ps↔isBound ps t:=by
 unfold posVars;rw[posVars_mem0];simp
theorem posVars_len0:∀(ps:List DPat)(l:List ByteArray),(ps.foldl posVar l).length≤l.length+patArgs ps
 |[],l=>Nat.le_refl _
 |p::ps,l=>by
  have h1:=posVars_len0 ps (posVar l p)
  have h2:(posVar l p).length≤l.length+p.Args.length:=by
   unfold posVar;split
   ·omega
   ·exact addVars_len _ _
  show(ps.foldl posVar (posVar l p)).length≤_
  simp only[patArgs,List.map_cons,List.sum_cons] at h1⊢;omega
def posVarS(l:List ByteArray)(p:DPat):List ByteArray:=if p.Not then l else(addVars [] p.Args).foldl addOnce l
def posVarsS(ps:List DPat):List ByteArray:=ps.foldl posVarS []
theorem foldOnce_mem{t:ByteArray}:∀{xs l:List ByteArray},t∈xs.foldl addOnce l↔t∈l∨t∈xs
 |[],l=>by simp
 |a::xs,l=>by
  show t∈xs.foldl addOnce (addOnce l a)↔_
  rw[foldOnce_mem,addOnce_mem,List.mem_cons,or_assoc]
theorem foldOnce_len:∀(xs l:List ByteArray),(xs.foldl addOnce l).length≤l.length+xs.length
 |[],l=>Nat.le_refl _
 |a::xs,l=>by
  have h1:=foldOnce_len xs (addOnce l a)
  have h2:=addOnce_len l a
  show(xs.foldl addOnce (addOnce l a)).length≤_
  simp only[List.length_cons];omega
theorem posVarS_mem{l:List ByteArray}{p:DPat}{t:ByteArray}:t∈posVarS l p↔t∈l∨(p.Not=false∧∃a∈p.Args,a.K=1∧t=a.S):=by
 unfold posVarS
 cases h:p.Not
 ·simp only[Bool.false_eq_true,if_false];rw[foldOnce_mem,addVars_mem];simp
 ·simp
theorem posVarsS_mem0{t:ByteArray}:∀{ps:List DPat}{l:List ByteArray},t∈ps.foldl posVarS l↔t∈l∨isBound ps t
 |[],l=>by simp[isBound]
 |p::ps,l=>by
  show t∈ps.foldl posVarS (posVarS l p)↔_
  rw[posVarsS_mem0,posVarS_mem]
  simp only[isBound,List.mem_cons,exists_eq_or_imp,or_assoc]
theorem posVarsS_mem{ps:List DPat}{t:ByteArray}:t∈posVarsS ps↔isBound ps t:=by
 unfold posVarsS;rw[posVarsS_mem0];simp
theorem posVarsS_len0:∀(ps:List DPat)(l:List ByteArray),(ps.foldl posVarS l).length≤l.length+patArgs ps
 |[],l=>Nat.le_refl _
 |p::ps,l=>by
  have h1:=posVarsS_len0 ps (posVarS l p)
  have h2:(posVarS l p).length≤l.length+p.Args.length:=by
   unfold posVarS;split
   ·omega
   ·have g1:=foldOnce_len (addVars [] p.Args) l
    have g2:=addVars_len p.Args []
    simp only[List.length_nil] at g2;omega
  show(ps.foldl posVarS (posVarS l p)).length≤_
  simp only[patArgs,List.map_cons,List.sum_cons] at h1⊢;omega
theorem patArgs_take(ps:List DPat)(n:Nat):patArgs (ps.take n)≤patArgs ps:=by
 have h:=congrArg (fun q=>(q.map fun p:DPat=>p.Args.length).sum) (List.take_append_drop n ps)
 simp only[List.map_append,List.sum_append] at h
 simp only[patArgs];omega
theorem patArgs_at(ps:List DPat){i:Int}(h0:0≤i)(h:i<ps.length):patArgs (ps.take i.toNat)+(List.getD ps i.toNat zPat).Args.length≤patArgs ps:=by
 have h1:=patArgs_take ps (i+1).toNat
 rw[←take_step ps zPat h0 h] at h1
 simp only[patArgs,List.map_append,List.sum_append,List.map_cons,List.map_nil,List.sum_cons,List.sum_nil] at h1⊢
 omega
def posN(ps:List DPat):Nat:=(ps.filter fun p=> !p.Not).length
theorem hasS_step{l:List ByteArray}{s:ByteArray}{i:Int}(h0:0≤i)(hl:i<l.length)(h:∀j:Nat,(j:Int)<i→¬List.getD l j noBytes=s)(hi:¬List.getD l i.toNat noBytes=s):∀j:Nat,(j:Int)<i+1→¬List.getD l j noBytes=s:=by
 intro j hj
 by_cases hji:(j:Int)<i
 ·exact h j hji
 ·have:j=i.toNat:=by omega
  subst this;exact hi
theorem hasS_no{l:List ByteArray}{s:ByteArray}(h:∀j:Nat,j<l.length→¬List.getD l j noBytes=s):hasS l s=false:=by
 rw[←Bool.not_eq_true,hasS_iff]
 intro hm
 obtain⟨j,hj,rfl⟩:=List.getElem_of_mem hm
 exact h j hj (by rw[List.getD_eq_getElem?_getD,List.getElem?_eq_getElem hj];rfl)
theorem hasS_yes{l:List ByteArray}{s:ByteArray}{j:Nat}(hj:j<l.length)(h:List.getD l j noBytes=s):hasS l s=true:=by
 rw[hasS_iff,←h,List.getD_eq_getElem?_getD,List.getElem?_eq_getElem hj]
 exact List.getElem_mem hj
theorem posN_step(ps:List DPat){i:Int}(h0:0≤i)(h:i<ps.length):posN (ps.take (i+1).toNat)=posN (ps.take i.toNat)+(if(!(List.getD ps i.toNat zPat).Not)=true then 1 else 0):=by
 rw[←take_step ps zPat h0 h]
 simp only[posN,List.filter_append,List.length_append,List.filter_cons,List.filter_nil]
 split<;>simp
theorem posN_le(ps:List DPat)(n:Nat):posN (ps.take n)≤n:=Nat.le_trans (List.length_filter_le _ _) (by simp;omega)
def Zk142:Con UU where
 α:=(List ByteArray)×ByteArray
 md:=[.ro,.ro]
 of:=oC (oL .str) (o1 oS)
 ds:=fun x=>[dL .str x.1,dS x.2]
 pre:=fun _=>[]
 res:=fun(l,s)=>⟨[.one (.lit (.bool (hasS l s)))],true,[]⟩
 law:=lC (lL .str) (l1 lS)
def Zi142_2(l:(List ByteArray))(s:ByteArray):Int×Unit→Prop:=fun(i,_)=>0≤i∧i≤l.length∧∀j:Nat,(j:Int)<i→¬List.getD l j noBytes=s
def Zm142_2(l:(List ByteArray))(s:ByteArray):Int×Unit→Nat:=fun(i,_)=>l.length-i.toNat
def Za142:Zk142.α→Nat→Option (Ann UU):=fun(l,s)=>annL [(2,annOf [.slot 5 (5,1024) (.lit (.int .i64))] (fun _=>Zi142_2 l s) (Zm142_2 l s))]
def Zu142:List (FuncId×Con UU):=[]
theorem Zv142(l:(List ByteArray))(s:ByteArray):goal EE Zu142 Go.Proofs.Tryz.f142 Zk142 Za142 (l,s)=(Zi142_2 l s ((0:Int),())∧∀(y:Int×PUnit),Zi142_2 l s y→bif decide (y.1<(l.length:Int)) then(0:Int)≤y.1∧y.1.toNat<l.length∧bif ByteArray.toList (List.getD l y.1.toNat noBytes)==ByteArray.toList s then Lb true (hasS l s) else Zi142_2 l s (IntKind.wrap IntKind.i64 (y.1+(1:Int)),())∧Zm142_2 l s (IntKind.wrap IntKind.i64 (y.1+(1:Int)),())<Zm142_2 l s y else Lb false (hasS l s)):=by kernel_rfl
theorem Zo142:Holds EE (142,Zk142):=by
 refine holds_of EE_ok Go.Proofs.Tryz.func142 Zk142 (by kernel_rfl) Zu142 all_nil Za142 (fun x hp hb=> ?_)
 obtain⟨l,s⟩:=x
 have hl_l:l.length≤9223372036854775807:=bdL (hb _ m0)
 have hl_s:=bdS (s:=s) (hb _ m1)
 clear hp hb
 rw[Zv142 l s]
 refine⟨⟨by omega,by omega,by intro j hj;omega⟩,?_⟩
 rintro⟨i,⟨⟩⟩ ⟨h1,h2,hR⟩
 simp only[toList_beq]
 refine if_cond (fun hc=> ?_) (fun hc=> ?_)
 ·have hc:=of_decide_eq_true hc
  rw[wrap_i64 (by omega) (by omega)]
  refine⟨by omega,by omega,if_cond (fun h=>Lf_tt (hasS_yes (j:=i.toNat) (by omega) (of_decide_eq_true h))) (fun h=>⟨⟨by omega,by omega,hasS_step h1 hc hR (of_decide_eq_false h)⟩,by simp only[Zm142_2];omega⟩)⟩
 ·have hc:=of_decide_eq_false hc
  exact Lf_ff (hasS_no fun j hj=>hR j (by omega))
def Zh142:HH:=⟨_,Zo142⟩
def Zk158:Con UU where
 α:=(List ByteArray)×ByteArray
 md:=[.ro,.ro]
 of:=oC (oL .str) (o1 oS)
 ds:=fun x=>[dL .str x.1,dS x.2]
 pre:=fun _=>[]
 res:=fun(l,s)=>⟨[.one (.lit (.int .i64 (idxI l.length (fun j=>decide (List.getD l j noBytes=s)))))],true,[]⟩
 law:=lC (lL .str) (l1 lS)
def Zi158_2(l:(List ByteArray))(s:ByteArray):Int×Unit→Prop:=fun(i,_)=>0≤i∧i≤l.length∧∀j:Nat,(j:Int)<i→¬List.getD l j noBytes=s
def Zm158_2(l:(List ByteArray))(s:ByteArray):Int×Unit→Nat:=fun(i,_)=>l.length-i.toNat
def Za158:Zk158.α→Nat→Option (Ann UU):=fun(l,s)=>annL [(2,annOf [.slot 8 (8,1024) (.lit (.int .i64))] (fun _=>Zi158_2 l s) (Zm158_2 l s))]
def Zu158:List (FuncId×Con UU):=[]
theorem Zv158(l:(List ByteArray))(s:ByteArray):goal EE Zu158 Go.Proofs.Tryz.f158 Zk158 Za158 (l,s)=(Zi158_2 l s ((0:Int),())∧∀(y:Int×PUnit),Zi158_2 l s y→bif decide (y.1<(l.length:Int)) then(0:Int)≤y.1∧y.1.toNat<l.length∧bif ByteArray.toList s==ByteArray.toList (List.getD l y.1.toNat noBytes) then Li y.1 (idxI (l.length) fun(j:Nat)=>decide (List.getD l j noBytes=s)) else Zi158_2 l s (IntKind.wrap IntKind.i64 (y.1+(1:Int)),())∧Zm158_2 l s (IntKind.wrap IntKind.i64 (y.1+(1:Int)),())<Zm158_2 l s y else Li (-1:Int) (idxI (l.length) fun(j:Nat)=>decide (List.getD l j noBytes=s))):=by kernel_rfl
theorem Zo158:Holds EE (158,Zk158):=by
 refine holds_of EE_ok Go.Proofs.Tryz.func158 Zk158 (by kernel_rfl) Zu158 all_nil Za158 (fun x hp hb=> ?_)
 obtain⟨l,s⟩:=x
 have hl_l:l.length≤9223372036854775807:=bdL (hb _ m0)
 have hl_s:=bdS (s:=s) (hb _ m1)
 clear hp hb
 rw[Zv158 l s]
 refine⟨⟨by omega,by omega,by intro j hj;omega⟩,?_⟩
 rintro⟨i,⟨⟩⟩ ⟨h1,h2,hR⟩
 simp only[toList_beq]
 refine if_cond (fun hc=> ?_) (fun hc=> ?_)
 ·have hc:=of_decide_eq_true hc
  rw[wrap_i64 (by omega) (by omega)]
  refine⟨by omega,by omega,if_cond (fun h=>Lf_i ?_) (fun h=>⟨⟨by omega,by omega,hasS_step h1 hc hR (fun e=>of_decide_eq_false h e.symm)⟩,by simp only[Zm158_2];omega⟩)⟩
  rw[idxI_found (i:=i.toNat) (by omega) (decide_eq_true (of_decide_eq_true h).symm) (fun j hj=>decide_eq_false (hR j (by omega)))]
  omega
 ·have hc:=of_decide_eq_false hc
  exact Lf_i (idxI_none (fun j hj=>decide_eq_false (hR j (by omega)))).symm
def Zh158:HH:=⟨_,Zo158⟩
def Zk122:Con UU where
 α:=(List ByteArray)×ByteArray
 md:=[.ro,.ro]
 of:=oC (oL .str) (o1 oS)
 ds:=fun x=>[dL .str x.1,dS x.2]
 pre:=fun _=>[]
 res:=fun(l,s)=>⟨[.one (.lit (.bool (hasS l s)))],true,[]⟩
 law:=lC (lL .str) (l1 lS)
def Za122:Zk122.α→Nat→Option (Ann UU):=fun(l,s)=>annL []
def Zu122:=us [Zh158]
theorem Zv122(l:(List ByteArray))(s:ByteArray):goal EE Zu122 Go.Proofs.Tryz.f122 Zk122 Za122 (l,s)=(let x0:Int:=idxI (l.length) fun(j:Nat)=>decide (List.getD l j noBytes=s);
Lf [DV.one (Cell.lit (Value.bool (decide (x0≥(0:Int)))))] [DV.one (Cell.lit (Value.bool (hasS l s)))]):=by kernel_rfl
theorem Zo122:Holds EE (122,Zk122):=by
 refine holds_of EE_ok Go.Proofs.Tryz.func122 Zk122 (by kernel_rfl) Zu122 (us_ok _) Za122 (fun x hp hb=> ?_)
 obtain⟨l,s⟩:=x
 have hl_l:l.length≤9223372036854775807:=bdL (hb _ m0)
 have hl_s:=bdS (s:=s) (hb _ m1)
 clear hp hb
 rw[Zv122 l s]
 dsimp only
 refine Lf_b ?_
 show decide (0≤idxI l.length (fun j=>decide (List.getD l j noBytes=s)))=_
 rw[idxI_ge]
 by_cases h:hasS l s=true
 ·rw[h]
  obtain⟨j,hj,hs⟩:=List.getElem_of_mem (hasS_iff.1 h)
  exact anyI_true hj (decide_eq_true (by rw[List.getD_eq_getElem?_getD,List.getElem?_eq_getElem hj];exact hs))
 ·rw[Bool.not_eq_true] at h
  rw[h]
  exact anyI_false fun j hj=>decide_eq_false fun e=>absurd (hasS_yes hj e) (by rw[h];decide)
def Zh122:HH:=⟨_,Zo122⟩
def Zk108:Con UU where
 α:=DRule
 md:=[.ro]
 of:=o1 (oA .eRule)
 ds:=fun x=>[dA .eRule x]
 pre:=fun _=>[]
 res:=fun r=>⟨[.one (.lit (.int .i64 (posN r.Pats:Int)))],true,[]⟩
 law:=l1 (lA .eRule)
def Zi108_3(r:DRule):Int×Int×(ByteArray×Int×List DPat×List DCond×List DAct×Unit)×Unit→Prop:=fun(n,i,b,_)=>b=(r.Name,r.Sal,r.Pats,r.Conds,r.Acts,())∧0≤i∧i≤r.Pats.length∧n=posN (r.Pats.take i.toNat)
def Zm108_3(r:DRule):Int×Int×(ByteArray×Int×List DPat×List DCond×List DAct×Unit)×Unit→Nat:=fun(n,i,b,_)=>r.Pats.length-i.toNat
def Za108:Zk108.α→Nat→Option (Ann UU):=fun r=>annL [(3,annOf [.slot 3 (3,1024) (.lit (.int .i64)),.slot 4 (4,1024) (.lit (.int .i64)),.box 1 (1,1024) [.lit .str,.lit (.int .i64),.shr .ePat,.shr .eCond,.shr .eAct]] (fun _=>Zi108_3 r) (Zm108_3 r))]
def Zu108:List (FuncId×Con UU):=[]
theorem Zv108(r:DRule):goal EE Zu108 Go.Proofs.Tryz.f108 Zk108 Za108 r=(Zi108_3 r ((0:Int),(0:Int),(r.Name,r.Sal,r.Pats,r.Conds,r.Acts,()),())∧
 ∀(y:Int×Int×(ByteArray×Int×List DPat×List DCond×List DAct×PUnit)×PUnit),
  let x1:Nat:=List.length y.2.2.1.2.2.1;
  let x2:Nat:=Int.toNat y.2.1;
  let x0:Int:=(↑x1:Int);
  Zi108_3 r y→bif decide (y.2.1<x0) then(0:Int)≤y.2.1∧x2<x1∧bif !(List.getD y.2.2.1.2.2.1 x2 zPat).Not then Zi108_3 r (IntKind.wrap IntKind.i64 (y.1+(1:Int)),IntKind.wrap IntKind.i64 (y.2.1+(1:Int)),(y.2.2.1.1,y.2.2.1.2.1,y.2.2.1.2.2.1,y.2.2.1.2.2.2.1,y.2.2.1.2.2.2.2.1,PUnit.unit),PUnit.unit)∧Zm108_3 r (IntKind.wrap IntKind.i64 (y.1+(1:Int)),IntKind.wrap IntKind.i64 (y.2.1+(1:Int)),(y.2.2.1.1,y.2.2.1.2.1,y.2.2.1.2.2.1,y.2.2.1.2.2.2.1,y.2.2.1.2.2.2.2.1,PUnit.unit),PUnit.unit)<Zm108_3 r y else Zi108_3 r (y.1,IntKind.wrap IntKind.i64 (y.2.1+(1:Int)),(y.2.2.1.1,y.2.2.1.2.1,y.2.2.1.2.2.1,y.2.2.1.2.2.2.1,y.2.2.1.2.2.2.2.1,PUnit.unit),PUnit.unit)∧Zm108_3 r (y.1,IntKind.wrap IntKind.i64 (y.2.1+(1:Int)),(y.2.2.1.1,y.2.2.1.2.1,y.2.2.1.2.2.1,y.2.2.1.2.2.2.1,y.2.2.1.2.2.2.2.1,PUnit.unit),PUnit.unit)<Zm108_3 r y else Lf [DV.one (Cell.lit (Value.int IntKind.i64 y.1))] [DV.one (Cell.lit (Value.int IntKind.i64 (↑(posN r.Pats):Int)))]):=by kernel_rfl
theorem Zo108:Holds EE (108,Zk108):=by
 refine holds_of EE_ok Go.Proofs.Tryz.func108 Zk108 (by kernel_rfl) Zu108 all_nil Za108 (fun(r:DRule) hp hb=> ?_)
 have hz0:=bd_eRule (x:=r) (hb _ m0)
 have hl_r_Name:=hz0.1
 have hl_r_Pats:=hz0.2.1
 have hl_r_Conds:=hz0.2.2.1
 have hl_r_Acts:=hz0.2.2.2
 clear hp hb
 rw[Zv108 r]
 dsimp only
 refine⟨⟨rfl,by omega,by omega,rfl⟩,?_⟩
 rintro⟨n,i,⟨b1,b2,b3,b4,b5,⟨⟩⟩,⟨⟩⟩ ⟨hbx,h1,h2,rfl⟩
 cases hbx
 simp only
 refine if_cond (fun hc=> ?_) (fun hc=> ?_)
 ·have hc:=of_decide_eq_true hc
  have hs:=posN_step r.Pats h1 hc
  have hle:posN (r.Pats.take i.toNat)≤i.toNat:=posN_le _ _
  rw[wrap_i64 (n:=i+1) (by omega) (by omega),wrap_i64 (n:=(posN (r.Pats.take i.toNat):Int)+1) (by omega) (by omega)]
  have hm:i.toNat<r.Pats.length:=by omega
  refine⟨by omega,by omega,if_cond (fun h=>⟨⟨rfl,by omega,by omega,?_⟩,by simp only[Zm108_3];omega⟩) (fun h=>⟨⟨rfl,by omega,by omega,?_⟩,by simp only[Zm108_3];omega⟩)⟩
  ·rw[hs,if_pos h];omega
  ·rw[hs,if_neg (by rw[h];decide)];omega
 ·have hc:=of_decide_eq_false hc
  rw[take_all r.Pats (by omega)]
  exact Lf_rfl _
def Zh108:HH:=⟨_,Zo108⟩
def Zk119:Con UU where
 α:=DRule
 md:=[.ro]
 of:=o1 (oA .eRule)
 ds:=fun x=>[dA .eRule x]
 pre:=fun _=>[]
 res:=fun r=>⟨[.one (.lit (.int .i64 (posN r.Pats:Int)))],true,[]⟩
 law:=l1 (lA .eRule)
def Zi119_3(r:DRule):Int×Int×Unit→Prop:=fun(n,i,_)=>0≤i∧i≤r.Pats.length∧n=posN (r.Pats.take i.toNat)
def Zm119_3(r:DRule):Int×Int×Unit→Nat:=fun(n,i,_)=>r.Pats.length-i.toNat
def Za119:Zk119.α→Nat→Option (Ann UU):=fun r=>annL [(3,annOf [.slot 3 (3,1024) (.lit (.int .i64)),.slot 9 (9,1024) (.lit (.int .i64))] (fun _=>Zi119_3 r) (Zm119_3 r))]
def Zu119:List (FuncId×Con UU):=[]
theorem Zv119(r:DRule):goal EE Zu119 Go.Proofs.Tryz.f119 Zk119 Za119 r=(Zi119_3 r ((0:Int),(0:Int),())∧
 ∀(y:Int×Int×PUnit),
  let x0:Nat:=Int.toNat y.2.1;
  Zi119_3 r y→bif decide (y.2.1<(↑(List.length r.Pats):Int)) then(0:Int)≤y.2.1∧x0<List.length r.Pats∧bif !(List.getD r.Pats x0 zPat).Not then Zi119_3 r (IntKind.wrap IntKind.i64 (y.1+(1:Int)),IntKind.wrap IntKind.i64 (y.2.1+(1:Int)),PUnit.unit)∧Zm119_3 r (IntKind.wrap IntKind.i64 (y.1+(1:Int)),IntKind.wrap IntKind.i64 (y.2.1+(1:Int)),PUnit.unit)<Zm119_3 r y else Zi119_3 r (y.1,IntKind.wrap IntKind.i64 (y.2.1+(1:Int)),PUnit.unit)∧Zm119_3 r (y.1,IntKind.wrap IntKind.i64 (y.2.1+(1:Int)),PUnit.unit)<Zm119_3 r y else Lf [DV.one (Cell.lit (Value.int IntKind.i64 y.1))] [DV.one (Cell.lit (Value.int IntKind.i64 (↑(posN r.Pats):Int)))]):=by kernel_rfl
theorem Zo119:Holds EE (119,Zk119):=by
 refine holds_of EE_ok Go.Proofs.Tryz.func119 Zk119 (by kernel_rfl) Zu119 all_nil Za119 (fun(r:DRule) hp hb=> ?_)
 have hz0:=bd_eRule (x:=r) (hb _ m0)
 have hl_r_Name:=hz0.1
 have hl_r_Pats:=hz0.2.1
 have hl_r_Conds:=hz0.2.2.1
 have hl_r_Acts:=hz0.2.2.2
 clear hp hb
 rw[Zv119 r]
 dsimp only
 refine⟨⟨by omega,by omega,rfl⟩,?_⟩
 rintro⟨n,i,⟨⟩⟩ ⟨h1,h2,rfl⟩
 simp only
 refine if_cond (fun hc=> ?_) (fun hc=> ?_)
 ·have hc:=of_decide_eq_true hc
  have hs:=posN_step r.Pats h1 hc
  have hle:posN (r.Pats.take i.toNat)≤i.toNat:=posN_le _ _
  rw[wrap_i64 (n:=i+1) (by omega) (by omega),wrap_i64 (n:=(posN (r.Pats.take i.toNat):Int)+1) (by omega) (by omega)]
  have hm:i.toNat<r.Pats.length:=by omega
  refine⟨by omega,by omega,if_cond (fun h=>⟨⟨by omega,by omega,?_⟩,by simp only[Zm119_3];omega⟩) (fun h=>⟨⟨by omega,by omega,?_⟩,by simp only[Zm119_3];omega⟩)⟩
  ·rw[hs,if_pos h];omega
  ·rw[hs,if_neg (by rw[h];decide)];omega
 ·have hc:=of_decide_eq_false hc
  rw[take_all r.Pats (by omega)]
  exact Lf_rfl _
def Zh119:HH:=⟨_,Zo119⟩
def Zk141:Con UU where
 α:=DPat
 md:=[.ro]
 of:=o1 (oA .ePat)
 ds:=fun x=>[dA .ePat x]
 pre:=fun p=>[p.Args.length≤4294967296]
 res:=fun p=>⟨[.one (.sl .str (addVars [] p.Args))],true,[]⟩
 law:=l1 (lA .ePat)
def Zi141_3(p:DPat):List ByteArray×Int×(ByteArray×List DArg×Bool×Unit)×Unit→Prop:=fun(l,i,b,_)=>b=(p.Kind,p.Args,p.Not,())∧0≤i∧i≤p.Args.length∧l=addVars [] (p.Args.take i.toNat)
def Zm141_3(p:DPat):List ByteArray×Int×(ByteArray×List DArg×Bool×Unit)×Unit→Nat:=fun(l,i,b,_)=>p.Args.length-i.toNat
def Za141:Zk141.α→Nat→Option (Ann UU):=fun p=>annL [(3,annOf [.slot 3 (3,1024) (.own .str true),.slot 4 (4,1024) (.lit (.int .i64)),.box 1 (1,1024) [.lit .str,.shr .eArg,.lit .bool]] (fun _=>Zi141_3 p) (Zm141_3 p))]
def Zu141:=us [Zh142]
theorem Zv141(p:DPat):goal EE Zu141 Go.Proofs.Tryz.f141 Zk141 Za141 p=(Zi141_3 p ([],(0:Int),(p.Kind,p.Args,p.Not,()),())∧
 ∀(y:List ByteArray×Int×(ByteArray×List DArg×Bool×PUnit)×PUnit),
  let x4:Nat:=List.length y.2.2.1.2.1;
  let x5:Nat:=Int.toNat y.2.1;
  let x2:DArg:=List.getD y.2.2.1.2.1 x5 zArg;
  let x3:Int:=(↑x4:Int);
  let x1:ByteArray:=x2.S;
  let x0:List ByteArray:=[x1];
  Zi141_3 p y→bif decide (y.2.1<x3) then(0:Int)≤y.2.1∧x5<x4∧bif x2.K==(1:Int) then(0:Int)≤y.2.1∧x5<x4∧bif !hasS y.1 x1 then(0:Int)≤y.2.1∧x5<x4∧List.length y.1+List.length x0≤(4294967296:Nat)∧Zi141_3 p (y.1++x0,IntKind.wrap IntKind.i64 (y.2.1+(1:Int)),(y.2.2.1.1,y.2.2.1.2.1,y.2.2.1.2.2.1,PUnit.unit),PUnit.unit)∧Zm141_3 p (y.1++x0,IntKind.wrap IntKind.i64 (y.2.1+(1:Int)),(y.2.2.1.1,y.2.2.1.2.1,y.2.2.1.2.2.1,PUnit.unit),PUnit.unit)<Zm141_3 p y else Zi141_3 p (y.1,IntKind.wrap IntKind.i64 (y.2.1+(1:Int)),(y.2.2.1.1,y.2.2.1.2.1,y.2.2.1.2.2.1,PUnit.unit),PUnit.unit)∧Zm141_3 p (y.1,IntKind.wrap IntKind.i64 (y.2.1+(1:Int)),(y.2.2.1.1,y.2.2.1.2.1,y.2.2.1.2.2.1,PUnit.unit),PUnit.unit)<Zm141_3 p y else Zi141_3 p (y.1,IntKind.wrap IntKind.i64 (y.2.1+(1:Int)),(y.2.2.1.1,y.2.2.1.2.1,y.2.2.1.2.2.1,PUnit.unit),PUnit.unit)∧Zm141_3 p (y.1,IntKind.wrap IntKind.i64 (y.2.1+(1:Int)),(y.2.2.1.1,y.2.2.1.2.1,y.2.2.1.2.2.1,PUnit.unit),PUnit.unit)<Zm141_3 p y else Lf [DV.one (Cell.sl Cd.str y.1)] [DV.one (Cell.sl Cd.str (addVars [] p.Args))]):=by kernel_rfl
theorem Zo141:Holds EE (141,Zk141):=by
 refine holds_of EE_ok Go.Proofs.Tryz.func141 Zk141 (by kernel_rfl) Zu141 (us_ok _) Za141 (fun(p:DPat) hp hb=> ?_)
 have hz0:=bd_ePat (x:=p) (hb _ m0)
 have hl_p_Kind:=hz0.1
 have hl_p_Args:=hz0.2
 have hp0:p.Args.length≤4294967296:=hp _ m0
 clear hp hb
 rw[Zv141 p]
 dsimp only
 refine⟨⟨rfl,by omega,by omega,rfl⟩,?_⟩
 rintro⟨l,i,⟨b1,b2,b3,⟨⟩⟩,⟨⟩⟩ ⟨hbx,h1,h2,rfl⟩
 cases hbx
 simp only
 refine if_cond (fun hc=> ?_) (fun hc=> ?_)
 ·have hc:=of_decide_eq_true hc
  have hs:=addVars_step [] p.Args h1 hc
  have hl:=addVars_len (p.Args.take i.toNat) []
  have hl2:(p.Args.take i.toNat).length≤i.toNat:=by rw[List.length_take];omega
  simp only[List.length_nil] at hl
  rw[wrap_i64 (by omega) (by omega)]
  have hm:∀x:List ByteArray,Zm141_3 p (x,i+1,(p.Kind,p.Args,p.Not,PUnit.unit),PUnit.unit)<Zm141_3 p (addVars [] (p.Args.take i.toNat),i,(p.Kind,p.Args,p.Not,PUnit.unit),PUnit.unit):=fun x=>by simp only[Zm141_3];omega
  refine⟨by omega,by omega,if_cond (fun h=>⟨by omega,by omega,if_cond (fun g=>⟨by omega,by omega,by simp;omega,⟨rfl,by omega,by omega,?_⟩,hm _⟩) (fun g=>⟨⟨rfl,by omega,by omega,?_⟩,hm _⟩)⟩) (fun h=>⟨⟨rfl,by omega,by omega,?_⟩,hm _⟩)⟩
  ·rw[hs,addVar,if_pos (eq_of_beq h),addOnce,if_neg (by simpa using g)]
  ·rw[hs,addVar,if_pos (eq_of_beq h),addOnce,if_pos (by simpa using g)]
  ·rw[hs,addVar,if_neg (fun e=>by rw[e] at h;simp at h)]
 ·have hc:=of_decide_eq_false hc
  rw[take_all p.Args (by omega)]
  exact Lf_rfl _
def Zh141:HH:=⟨_,Zo141⟩
def Zk104:Con UU where
 α:=DRule
 md:=[.ro]
 of:=o1 (oA .eRule)
 ds:=fun x=>[dA .eRule x]
 pre:=fun r=>[patArgs r.Pats≤4294967296]
 res:=fun r=>⟨[.one (.sl .str (posVarsS r.Pats))],true,[]⟩
 law:=l1 (lA .eRule)
def Zi104_3(r:DRule):List ByteArray×Int×(ByteArray×Int×List DPat×List DCond×List DAct×Unit)×Unit→Prop:=fun(l,i,b,_)=>b=(r.Name,r.Sal,r.Pats,r.Conds,r.Acts,())∧0≤i∧i≤r.Pats.length∧l=posVarsS (r.Pats.take i.toNat)
def Zm104_3(r:DRule):List ByteArray×Int×(ByteArray×Int×List DPat×List DCond×List DAct×Unit)×Unit→Nat:=fun(l,i,b,_)=>r.Pats.length-i.toNat
def Zi104_7(r:DRule):List ByteArray×Int×List ByteArray×Int×(ByteArray×Int×List DPat×List DCond×List DAct×Unit)×Unit→List ByteArray×Int×List ByteArray×Int×(ByteArray×Int×List DPat×List DCond×List DAct×Unit)×Unit→Prop:=fun(l0,i0,v0,k0,b0,_) (l,i,v,k,b,_)=>b=(r.Name,r.Sal,r.Pats,r.Conds,r.Acts,())∧i=i0∧v=v0∧0≤k∧k≤v.length∧l=(v.take k.toNat).foldl addOnce l0∧(k=0∨(List.getD r.Pats i.toNat zPat).Not=false)
def Zm104_7(r:DRule):List ByteArray×Int×List ByteArray×Int×(ByteArray×Int×List DPat×List DCond×List DAct×Unit)×Unit→Nat:=fun(l,i,v,k,b,_)=>v.length-k.toNat
def Za104:Zk104.α→Nat→Option (Ann UU):=fun r=>annL [(3,annOf [.slot 3 (3,1024) (.own .str true),.slot 4 (4,1024) (.lit (.int .i64)),.box 1 (1,1024) [.lit .str,.lit (.int .i64),.shr .ePat,.shr .eCond,.shr .eAct]] (fun _=>Zi104_3 r) (Zm104_3 r)),(7,annOf [.slot 3 (3,1024) (.own .str true),.slot 4 (4,1024) (.lit (.int .i64)),.slot 5 (5,1024) (.own .str true),.slot 6 (6,1024) (.lit (.int .i64)),.box 1 (1,1024) [.lit .str,.lit (.int .i64),.shr .ePat,.shr .eCond,.shr .eAct]] (Zi104_7 r) (Zm104_7 r))]
def Zu104:=us [Zh141,Zh142]
theorem Zv104(r:DRule):goal EE Zu104 Go.Proofs.Tryz.f104 Zk104 Za104 r=(Zi104_3 r ([],(0:Int),(r.Name,r.Sal,r.Pats,r.Conds,r.Acts,()),())∧
 ∀(y:List ByteArray×Int×(ByteArray×Int×List DPat×List DCond×List DAct×PUnit)×PUnit),
  let x2:Nat:=List.length y.2.2.1.2.2.1;
  let x3:Nat:=Int.toNat y.2.1;
  let x0:List DArg:=(List.getD y.2.2.1.2.2.1 x3 zPat).Args;
  let x1:Int:=(↑x2:Int);
  Zi104_3 r y→
   bif decide (y.2.1<x1) then
    (0:Int)≤y.2.1∧
     x3<x2∧
      List.length x0≤(4294967296:Nat)∧
       Zi104_7 r (y.1,y.2.1,addVars [] x0,(0:Int),(y.2.2.1.1,y.2.2.1.2.1,y.2.2.1.2.2.1,y.2.2.1.2.2.2.1,y.2.2.1.2.2.2.2.1,PUnit.unit),PUnit.unit) (y.1,y.2.1,addVars [] x0,(0:Int),(y.2.2.1.1,y.2.2.1.2.1,y.2.2.1.2.2.1,y.2.2.1.2.2.2.1,y.2.2.1.2.2.2.2.1,PUnit.unit),PUnit.unit)∧
        ∀(y_1:List ByteArray×Int×List ByteArray×Int×(ByteArray×Int×List DPat×List DCond×List DAct×PUnit)×PUnit),
         let x6:Nat:=Int.toNat y_1.2.2.2.1;
         let x8:Nat:=List.length y_1.2.2.1;
         let x9:Nat:=Int.toNat y_1.2.1;
         let x5:ByteArray:=List.getD y_1.2.2.1 x6 noBytes;
         let x7:Int:=(↑x8:Int);
         let x4:List ByteArray:=[x5];
         Zi104_7 r (y.1,y.2.1,addVars [] x0,(0:Int),(y.2.2.1.1,y.2.2.1.2.1,y.2.2.1.2.2.1,y.2.2.1.2.2.2.1,y.2.2.1.2.2.2.2.1,PUnit.unit),PUnit.unit) y_1→bif decide (y_1.2.2.2.1<x7) then(0:Int)≤y_1.2.1∧x9<List.length y_1.2.2.2.2.1.2.2.1∧bif !(List.getD y_1.2.2.2.2.1.2.2.1 x9 zPat).Not then(0:Int)≤y_1.2.2.2.1∧x6<x8∧x6<x8∧bif !hasS y_1.1 x5 then(0:Int)≤y_1.2.2.2.1∧x6<x8∧x6<x8∧List.length y_1.1+List.length x4≤(4294967296:Nat)∧Zi104_7 r (y.1,y.2.1,addVars [] x0,(0:Int),(y.2.2.1.1,y.2.2.1.2.1,y.2.2.1.2.2.1,y.2.2.1.2.2.2.1,y.2.2.1.2.2.2.2.1,PUnit.unit),PUnit.unit) (y_1.1++x4,y_1.2.1,y_1.2.2.1,IntKind.wrap IntKind.i64 (y_1.2.2.2.1+(1:Int)),(y_1.2.2.2.2.1.1,y_1.2.2.2.2.1.2.1,y_1.2.2.2.2.1.2.2.1,y_1.2.2.2.2.1.2.2.2.1,y_1.2.2.2.2.1.2.2.2.2.1,PUnit.unit),PUnit.unit)∧Zm104_7 r (y_1.1++x4,y_1.2.1,y_1.2.2.1,IntKind.wrap IntKind.i64 (y_1.2.2.2.1+(1:Int)),(y_1.2.2.2.2.1.1,y_1.2.2.2.2.1.2.1,y_1.2.2.2.2.1.2.2.1,y_1.2.2.2.2.1.2.2.2.1,y_1.2.2.2.2.1.2.2.2.2.1,PUnit.unit),PUnit.unit)<Zm104_7 r y_1 else Zi104_7 r (y.1,y.2.1,addVars [] x0,(0:Int),(y.2.2.1.1,y.2.2.1.2.1,y.2.2.1.2.2.1,y.2.2.1.2.2.2.1,y.2.2.1.2.2.2.2.1,PUnit.unit),PUnit.unit) (y_1.1,y_1.2.1,y_1.2.2.1,IntKind.wrap IntKind.i64 (y_1.2.2.2.1+(1:Int)),(y_1.2.2.2.2.1.1,y_1.2.2.2.2.1.2.1,y_1.2.2.2.2.1.2.2.1,y_1.2.2.2.2.1.2.2.2.1,y_1.2.2.2.2.1.2.2.2.2.1,PUnit.unit),PUnit.unit)∧Zm104_7 r (y_1.1,y_1.2.1,y_1.2.2.1,IntKind.wrap IntKind.i64 (y_1.2.2.2.1+(1:Int)),(y_1.2.2.2.2.1.1,y_1.2.2.2.2.1.2.1,y_1.2.2.2.2.1.2.2.1,y_1.2.2.2.2.1.2.2.2.1,y_1.2.2.2.2.1.2.2.2.2.1,PUnit.unit),PUnit.unit)<Zm104_7 r y_1 else Zi104_3 r (y_1.1,IntKind.wrap IntKind.i64 (y_1.2.1+(1:Int)),(y_1.2.2.2.2.1.1,y_1.2.2.2.2.1.2.1,y_1.2.2.2.2.1.2.2.1,y_1.2.2.2.2.1.2.2.2.1,y_1.2.2.2.2.1.2.2.2.2.1,PUnit.unit),PUnit.unit)∧Zm104_3 r (y_1.1,IntKind.wrap IntKind.i64 (y_1.2.1+(1:Int)),(y_1.2.2.2.2.1.1,y_1.2.2.2.2.1.2.1,y_1.2.2.2.2.1.2.2.1,y_1.2.2.2.2.1.2.2.2.1,y_1.2.2.2.2.1.2.2.2.2.1,PUnit.unit),PUnit.unit)<Zm104_3 r y else Zi104_3 r (y_1.1,IntKind.wrap IntKind.i64 (y_1.2.1+(1:Int)),(y_1.2.2.2.2.1.1,y_1.2.2.2.2.1.2.1,y_1.2.2.2.2.1.2.2.1,y_1.2.2.2.2.1.2.2.2.1,y_1.2.2.2.2.1.2.2.2.2.1,PUnit.unit),PUnit.unit)∧Zm104_3 r (y_1.1,IntKind.wrap IntKind.i64 (y_1.2.1+(1:Int)),(y_1.2.2.2.2.1.1,y_1.2.2.2.2.1.2.1,y_1.2.2.2.2.1.2.2.1,y_1.2.2.2.2.1.2.2.2.1,y_1.2.2.2.2.1.2.2.2.2.1,PUnit.unit),PUnit.unit)<Zm104_3 r y
   else Lf [DV.one (Cell.sl Cd.str y.1)] [DV.one (Cell.sl Cd.str (posVarsS r.Pats))]):=by kernel_rfl
theorem Zo104:Holds EE (104,Zk104):=by
 refine holds_of EE_ok Go.Proofs.Tryz.func104 Zk104 (by kernel_rfl) Zu104 (us_ok _) Za104 (fun(r:DRule) hp hb=> ?_)
 have hz0:=bd_eRule (x:=r) (hb _ m0)
 have hl_r_Name:=hz0.1
 have hl_r_Pats:=hz0.2.1
 have hl_r_Conds:=hz0.2.2.1
 have hl_r_Acts:=hz0.2.2.2
 have hp0:patArgs r.Pats≤4294967296:=hp _ m0
 clear hp hb
 rw[Zv104 r]
 dsimp only
 refine⟨⟨rfl,by omega,by omega,rfl⟩,?_⟩
 rintro⟨l,i,⟨b1,b2,b3,b4,b5,⟨⟩⟩,⟨⟩⟩ ⟨hbx,h1,h2,rfl⟩
 cases hbx
 simp only
 refine if_cond (fun hc=> ?_) (fun hc=> ?_)
 ·have hc:=of_decide_eq_true hc
  have hs:posVarsS (r.Pats.take (i+1).toNat)=posVarS (posVarsS (r.Pats.take i.toNat)) (List.getD r.Pats i.toNat zPat):=foldl_step posVarS [] r.Pats zPat h1 hc
  have ha:=patArgs_at r.Pats h1 hc
  have hl:=posVarsS_len0 (r.Pats.take i.toNat) []
  simp only[List.length_nil,Nat.zero_add] at hl
  have hv:=addVars_len (List.getD r.Pats i.toNat zPat).Args []
  simp only[List.length_nil,Nat.zero_add] at hv
  refine⟨by omega,by omega,by omega,⟨rfl,rfl,rfl,by omega,by omega,rfl,.inl rfl⟩,?_⟩
  rintro⟨l',i',v,k,⟨b1,b2,b3,b4,b5,⟨⟩⟩,⟨⟩⟩ ⟨hbx,rfl,rfl,g1,g2,rfl,g3⟩
  cases hbx
  simp only
  have hfl:=foldOnce_len ((addVars [] (List.getD r.Pats i'.toNat zPat).Args).take k.toNat) (posVarsS (r.Pats.take i'.toNat))
  have hfl2:((addVars [] (List.getD r.Pats i'.toNat zPat).Args).take k.toNat).length≤k.toNat:=by rw[List.length_take];omega
  have hl':(posVarsS (r.Pats.take i'.toNat)).length≤patArgs (r.Pats.take i'.toNat):=hl
  have hin:(addVars [] (List.getD r.Pats i'.toNat zPat).Args).length≤(List.getD r.Pats i'.toNat zPat).Args.length:=hv
  refine if_cond (fun hk=> ?_) (fun hk=> ?_)
  ·have hk:=of_decide_eq_true hk
   have hf:=foldl_step addOnce (posVarsS (r.Pats.take i'.toNat)) (addVars [] (List.getD r.Pats i'.toNat zPat).Args) noBytes g1 hk
   rw[wrap_i64 (n:=k+1) (by omega) (by omega),wrap_i64 (n:=i'+1) (by omega) (by omega)]
   refine⟨by omega,by omega,if_cond (fun hn=> ?_) (fun hn=> ?_)⟩
   ·have hn:(List.getD r.Pats i'.toNat zPat).Not=false:=by simpa using hn
    have hkl:k.toNat<(addVars [] (List.getD r.Pats i'.toNat zPat).Args).length:=by omega
    refine⟨g1,hkl,hkl,if_cond (fun g=>⟨g1,hkl,hkl,by simp only[List.length_cons,List.length_nil];omega,⟨rfl,rfl,rfl,by omega,by omega,?_,.inr hn⟩,by simp only[Zm104_7];omega⟩) (fun g=>⟨⟨rfl,rfl,rfl,by omega,by omega,?_,.inr hn⟩,by simp only[Zm104_7];omega⟩)⟩
    ·rw[hf,addOnce,if_neg (by simpa using g)]
    ·rw[hf,addOnce,if_pos (by simpa using g)]
   ·have hn:(List.getD r.Pats i'.toNat zPat).Not=true:=by simpa using hn
    have hk0:k=0:=g3.resolve_right (by rw[hn];decide)
    subst hk0
    refine⟨⟨rfl,by omega,by omega,?_⟩,by simp only[Zm104_3];omega⟩
    rw[hs,posVarS,if_pos hn]
    rfl
  ·have hk:=of_decide_eq_false hk
   rw[wrap_i64 (n:=i'+1) (by omega) (by omega)]
   refine⟨⟨rfl,by omega,by omega,?_⟩,by simp only[Zm104_3];omega⟩
   rw[hs,posVarS]
   by_cases hn:(List.getD r.Pats i'.toNat zPat).Not=true
   ·have hk0:k=0:=g3.resolve_right (by rw[hn];decide)
    subst hk0
    rw[if_pos hn];rfl
   ·rw[if_neg hn,take_all (addVars [] (List.getD r.Pats i'.toNat zPat).Args) (by omega)]
 ·have hc:=of_decide_eq_false hc
  rw[take_all r.Pats (by omega)]
  exact Lf_rfl _
def Zh104:HH:=⟨_,Zo104⟩
def Zk176:Con UU where
 α:=(List ByteArray)×ByteArray
 md:=[.mv,.ro]
 of:=oC (oL .str) (o1 oS)
 ds:=fun x=>[dL .str x.1,dS x.2]
 pre:=fun(l,name)=>[l.length≤4294967295]
 res:=fun(l,name)=>⟨[.one (.sl .str (addOnce l name))],true,[]⟩
 law:=lC (lL .str) (l1 lS)
def Za176:Zk176.α→Nat→Option (Ann UU):=fun(l,name)=>annL []
def Zu176:=us [Zh122]
theorem Zv176(l:(List ByteArray))(name:ByteArray):goal EE Zu176 Go.Proofs.Tryz.f176 Zk176 Za176 (l,name)=(bif hasS l name then Lf [DV.one (Cell.sl Cd.str l)] [DV.one (Cell.sl Cd.str (addOnce l name))] else l.length+List.length [name]≤(4294967296:Nat)∧Lf [DV.one (Cell.sl Cd.str (l++[name]))] [DV.one (Cell.sl Cd.str (addOnce l name))]):=by kernel_rfl
theorem Zo176:Holds EE (176,Zk176):=by
 refine holds_of EE_ok Go.Proofs.Tryz.func176 Zk176 (by kernel_rfl) Zu176 (us_ok _) Za176 (fun x hp hb=> ?_)
 obtain⟨l,name⟩:=x
 have hl_l:l.length≤9223372036854775807:=bdL (hb _ m0)
 have hl_name:=bdS (s:=name) (hb _ m1)
 have hp0:l.length≤4294967295:=hp _ m0
 clear hp hb
 rw[Zv176 l name]
 refine if_cond (fun h=> ?_) (fun h=>⟨by simp;omega,?_⟩)
 ·rw[addOnce,if_pos h];exact Lf_rfl _
 ·rw[addOnce,if_neg (by rw[h];decide)];exact Lf_rfl _
def Zh176:HH:=⟨_,Zo176⟩
def Zk157:Con UU where
 α:=(List ByteArray)×(List DArg)
 md:=[.mv,.ro]
 of:=oC (oL .str) (o1 (oL .eArg))
 ds:=fun x=>[dL .str x.1,dL .eArg x.2]
 pre:=fun(l,args)=>[l.length+args.length≤4294967295]
 res:=fun(l,args)=>⟨[.one (.sl .str (addVars l args))],true,[]⟩
 law:=lC (lL .str) (l1 (lL .eArg))
def Zi157_2(l:(List ByteArray))(args:(List DArg)):List ByteArray×Int×Unit→Prop:=fun(v,i,_)=>0≤i∧i≤args.length∧v=addVars l (args.take i.toNat)
def Zm157_2(l:(List ByteArray))(args:(List DArg)):List ByteArray×Int×Unit→Nat:=fun(v,i,_)=>args.length-i.toNat
def Za157:Zk157.α→Nat→Option (Ann UU):=fun(l,args)=>annL [(2,annOf [.slot 0 (0,1024) (.own .str true),.slot 9 (9,1024) (.lit (.int .i64))] (fun _=>Zi157_2 l args) (Zm157_2 l args))]
def Zu157:=us [Zh176]
theorem Zv157(l:(List ByteArray))(args:(List DArg)):goal EE Zu157 Go.Proofs.Tryz.f157 Zk157 Za157 (l,args)=(Zi157_2 l args (l,(0:Int),())∧
 ∀(y:List ByteArray×Int×PUnit),
  let x1:Nat:=Int.toNat y.2.1;
  let x0:DArg:=List.getD args x1 zArg;
  Zi157_2 l args y→bif decide (y.2.1<(↑(List.length args):Int)) then(0:Int)≤y.2.1∧x1<List.length args∧bif x0.K==(1:Int) then List.length y.1≤(4294967295:Nat)∧Zi157_2 l args (addOnce y.1 x0.S,IntKind.wrap IntKind.i64 (y.2.1+(1:Int)),PUnit.unit)∧Zm157_2 l args (addOnce y.1 x0.S,IntKind.wrap IntKind.i64 (y.2.1+(1:Int)),PUnit.unit)<Zm157_2 l args y else Zi157_2 l args (y.1,IntKind.wrap IntKind.i64 (y.2.1+(1:Int)),PUnit.unit)∧Zm157_2 l args (y.1,IntKind.wrap IntKind.i64 (y.2.1+(1:Int)),PUnit.unit)<Zm157_2 l args y else Lf [DV.one (Cell.sl Cd.str y.1)] [DV.one (Cell.sl Cd.str (addVars l args))]):=by kernel_rfl
theorem Zo157:Holds EE (157,Zk157):=by
 refine holds_of EE_ok Go.Proofs.Tryz.func157 Zk157 (by kernel_rfl) Zu157 (us_ok _) Za157 (fun x hp hb=> ?_)
 obtain⟨l,args⟩:=x
 have hl_l:l.length≤9223372036854775807:=bdL (hb _ m0)
 have hl_args:args.length≤9223372036854775807:=bdL (hb _ m1)
 have hp0:l.length+args.length≤4294967295:=hp _ m0
 clear hp hb
 rw[Zv157 l args]
 dsimp only
 refine⟨⟨by omega,by omega,rfl⟩,?_⟩
 rintro⟨v,i,⟨⟩⟩ ⟨h1,h2,rfl⟩
 simp only
 refine if_cond (fun hc=> ?_) (fun hc=> ?_)
 ·have hc:=of_decide_eq_true hc
  have hs:=addVars_step l args h1 hc
  have hl:=addVars_len (args.take i.toNat) l
  have hl2:(args.take i.toNat).length≤i.toNat:=by rw[List.length_take];omega
  rw[wrap_i64 (by omega) (by omega)]
  refine⟨by omega,by omega,if_cond (fun h=>⟨by omega,⟨by omega,by omega,?_⟩,by simp only[Zm157_2];omega⟩) (fun h=>⟨⟨by omega,by omega,?_⟩,by simp only[Zm157_2];omega⟩)⟩
  ·rw[hs,addVar,if_pos (eq_of_beq h)]
  ·rw[hs,addVar,if_neg (fun e=>by rw[e] at h;simp at h)]
 ·have hc:=of_decide_eq_false hc
  rw[take_all args (by omega)]
  exact Lf_rfl _
def Zh157:HH:=⟨_,Zo157⟩
def Zk120:Con UU where
 α:=DRule
 md:=[.ro]
 of:=o1 (oA .eRule)
 ds:=fun x=>[dA .eRule x]
 pre:=fun r=>[patArgs r.Pats≤4294967295]
 res:=fun r=>⟨[.one (.sl .str (posVars r.Pats))],true,[]⟩
 law:=l1 (lA .eRule)
def Zi120_3(r:DRule):List ByteArray×Int×Unit→Prop:=fun(v,i,_)=>0≤i∧i≤r.Pats.length∧v=posVars (r.Pats.take i.toNat)
def Zm120_3(r:DRule):List ByteArray×Int×Unit→Nat:=fun(v,i,_)=>r.Pats.length-i.toNat
def Za120:Zk120.α→Nat→Option (Ann UU):=fun r=>annL [(3,annOf [.slot 3 (3,1024) (.own .str true),.slot 9 (9,1024) (.lit (.int .i64))] (fun _=>Zi120_3 r) (Zm120_3 r))]
def Zu120:=us [Zh157]
theorem Zv120(r:DRule):goal EE Zu120 Go.Proofs.Tryz.f120 Zk120 Za120 r=(Zi120_3 r ([],(0:Int),())∧
 ∀(y:List ByteArray×Int×PUnit),
  let x2:Nat:=Int.toNat y.2.1;
  let x1:DPat:=List.getD r.Pats x2 zPat;
  let x0:List DArg:=x1.Args;
  Zi120_3 r y→bif decide (y.2.1<(↑(List.length r.Pats):Int)) then(0:Int)≤y.2.1∧x2<List.length r.Pats∧bif !x1.Not then List.length y.1+List.length x0≤(4294967295:Nat)∧Zi120_3 r (addVars y.1 x0,IntKind.wrap IntKind.i64 (y.2.1+(1:Int)),PUnit.unit)∧Zm120_3 r (addVars y.1 x0,IntKind.wrap IntKind.i64 (y.2.1+(1:Int)),PUnit.unit)<Zm120_3 r y else Zi120_3 r (y.1,IntKind.wrap IntKind.i64 (y.2.1+(1:Int)),PUnit.unit)∧Zm120_3 r (y.1,IntKind.wrap IntKind.i64 (y.2.1+(1:Int)),PUnit.unit)<Zm120_3 r y else Lf [DV.one (Cell.sl Cd.str y.1)] [DV.one (Cell.sl Cd.str (posVars r.Pats))]):=by kernel_rfl
theorem Zo120:Holds EE (120,Zk120):=by
 refine holds_of EE_ok Go.Proofs.Tryz.func120 Zk120 (by kernel_rfl) Zu120 (us_ok _) Za120 (fun(r:DRule) hp hb=> ?_)
 have hz0:=bd_eRule (x:=r) (hb _ m0)
 have hl_r_Name:=hz0.1
 have hl_r_Pats:=hz0.2.1
 have hl_r_Conds:=hz0.2.2.1
 have hl_r_Acts:=hz0.2.2.2
 have hp0:patArgs r.Pats≤4294967295:=hp _ m0
 clear hp hb
 rw[Zv120 r]
 dsimp only
 refine⟨⟨by omega,by omega,rfl⟩,?_⟩
 rintro⟨v,i,⟨⟩⟩ ⟨h1,h2,rfl⟩
 simp only
 refine if_cond (fun hc=> ?_) (fun hc=> ?_)
 ·have hc:=of_decide_eq_true hc
  have hs:posVars (r.Pats.take (i+1).toNat)=posVar (posVars (r.Pats.take i.toNat)) (List.getD r.Pats i.toNat zPat):=foldl_step posVar [] r.Pats zPat h1 hc
  have ha:=patArgs_at r.Pats h1 hc
  have hl:=posVars_len0 (r.Pats.take i.toNat) []
  simp only[List.length_nil,Nat.zero_add] at hl
  have hl':(posVars (r.Pats.take i.toNat)).length≤patArgs (r.Pats.take i.toNat):=hl
  rw[wrap_i64 (by omega) (by omega)]
  refine⟨by omega,by omega,if_cond (fun h=>⟨by omega,⟨by omega,by omega,?_⟩,by simp only[Zm120_3];omega⟩) (fun h=>⟨⟨by omega,by omega,?_⟩,by simp only[Zm120_3];omega⟩)⟩
  ·rw[hs,posVar,if_neg (by simpa using h)]
  ·rw[hs,posVar,if_pos (by simpa using h)]
 ·have hc:=of_decide_eq_false hc
  rw[take_all r.Pats (by omega)]
  exact Lf_rfl _
def Zh120:HH:=⟨_,Zo120⟩
def notAt(ps:List DPat)(i:Nat):Bool:=(List.getD ps i zPat).Not
def patAt(ps:List DPat)(i:Nat):Bool:=patOk (List.getD ps i zPat)&& !(decide (2<i)&& !notAt ps i)&& !(decide (i=0)&&notAt ps i)&& !(decide (0<i)&&notAt ps (i-1)&& !notAt ps i)
def patsOk(ps:List DPat):Bool:=decide (1≤ps.length∧ps.length≤6)&&allI ps.length (patAt ps)
def patAtI(ps:List DPat)(i:Nat):Bool:=patOk (List.getD ps i zPat)&&(notAt ps i==decide (posN ps≤i))
def patsOkI(ps:List DPat):Bool:=decide (1≤ps.length∧ps.length≤6)&&decide (1≤posN ps∧posN ps≤3)&&allI ps.length (patAtI ps)
theorem allI_all{n:Nat}{p:Nat→Bool}:allI n p=true↔∀j,j<n→p j=true:=by simp[allI]
theorem posN_cons(p:DPat)(ps:List DPat):posN (p::ps)=(if p.Not then 0 else 1)+posN ps:=by
 simp only[posN,List.filter_cons]
 cases p.Not<;>simp<;>omega
theorem not_mono:∀{ps:List DPat},(∀i,i+1<ps.length→notAt ps i=true→notAt ps (i+1)=true)→∀i,i<ps.length→notAt ps i=decide (posN ps≤i)
 |[],_,i,hi=>by simp at hi
 |p::ps,h,i,hi=>by
  have ih:=not_mono (ps:=ps) (fun j hj hn=>h (j+1) (by simpa using hj) hn)
  rw[posN_cons]
  cases hp:p.Not with
  |false=>
   cases i with
   |zero=>show p.Not=_;rw[hp];simp
   |succ i=>
    show notAt ps i=_
    rw[ih i (by simpa using hi)]
    simp only[Bool.false_eq_true,if_false,decide_eq_decide];omega
  |true=>
   have hall:∀j,j<(p::ps).length→notAt (p::ps) j=true:=by
    intro j
    induction j with
    |zero=>intro _;exact hp
    |succ j ihj=>intro hj;exact h j hj (ihj (by omega))
   have h0:posN ps=0:=by
    cases ps with
    |nil=>rfl
    |cons q qs=>
     have h1:=ih 0 (by simp)
     have h2:notAt (q::qs) 0=true:=hall 1 (by simp)
     rw[h2] at h1
     have:=of_decide_eq_true h1.symm
     omega
   rw[hall i hi,h0];simp
theorem patsOkI_eq(ps:List DPat):patsOkI ps=patsOk ps:=by
 rw[Bool.eq_iff_iff]
 simp only[patsOkI,patsOk,Bool.and_eq_true,decide_eq_true_eq,allI_all]
 constructor
 ·rintro⟨⟨h1,h2⟩,h3⟩
  have hN:∀j,j<ps.length→notAt ps j=decide (posN ps≤j):=fun j hj=>by
   have:=h3 j hj
   simp only[patAtI,Bool.and_eq_true,beq_iff_eq] at this
   exact this.2
  refine⟨h1,fun j hj=> ?_⟩
  have hk:=h3 j hj
  simp only[patAtI,Bool.and_eq_true] at hk
  simp only[patAt,hk.1,hN j hj,Bool.true_and,Bool.and_eq_true,Bool.not_eq_true',Bool.and_eq_false_iff,decide_eq_false_iff_not,Bool.not_eq_false',decide_eq_true_eq]
  refine⟨⟨by omega,by omega⟩,?_⟩
  by_cases h0:0<j
  ·rw[hN (j-1) (by omega)];simp only[decide_eq_false_iff_not];omega
  ·exact .inl (.inl h0)
 ·rintro⟨h1,h2⟩
  have hA:∀j,j<ps.length→patOk (List.getD ps j zPat)=true∧(2<j→notAt ps j=true)∧(j=0→notAt ps j=false)∧(0<j→notAt ps (j-1)=true→notAt ps j=true):=fun j hj=>by
   have:=h2 j hj
   simp only[patAt,Bool.and_eq_true,Bool.not_eq_true',Bool.and_eq_false_iff,decide_eq_false_iff_not,Bool.not_eq_false'] at this
   obtain⟨⟨⟨a1,a2⟩,a3⟩,a4⟩:=this
   refine⟨a1,fun h=>a2.resolve_left (fun e=>e h),fun h=>a3.resolve_left (fun e=>e h),fun h hn=>a4.resolve_left (fun e=> ?_)⟩
   rcases e with e|e
   ·exact e h
   ·rw[hn] at e;cases e
  have hN:=not_mono (ps:=ps) (fun i hi hn=>(hA (i+1) hi).2.2.2 (by omega) (by simpa using hn))
  have hz:=(hA 0 (by omega)).2.2.1 rfl
  rw[hN 0 (by omega)] at hz
  have hz:=of_decide_eq_false hz
  have hle:posN ps≤ps.length:=List.length_filter_le _ _
  refine⟨⟨h1,by omega,?_⟩,fun j hj=> ?_⟩
  ·by_cases h4:3<ps.length
   ·have:=(hA 3 h4).2.1 (by omega)
    rw[hN 3 h4] at this
    exact of_decide_eq_true this
   ·omega
  ·simp only[patAtI,(hA j hj).1,hN j hj];simp
def knownIn(vars:List ByteArray)(a:DArg):Bool:= !decide (a.K=1)||hasS vars a.S
def kondIn(vars:List ByteArray)(c:DCond):Bool:=kondOk c&&knownIn vars c.L&&knownIn vars c.R
def kondsIn(l:List DCond)(vars:List ByteArray):Bool:=decide (l.length≤6)&&l.all (kondIn vars)
def exprIn(vars:List ByteArray)(e:DExpr):Bool:=knownIn vars e.L&&knownIn vars e.R
def dropIn(pos:Int)(a:DAct):Bool:= !(decide (a.Kind=2)&&decide (pos≤a.N))
def actIn(vars:List ByteArray)(pos:Int)(a:DAct):Bool:=actOk a&&dropIn pos a&&a.Args.all (exprIn vars)
def actsIn(l:List DAct)(vars:List ByteArray)(pos:Int):Bool:=decide (1≤l.length∧l.length≤6)&&l.all (actIn vars pos)
def ruleOk(r:DRule):Bool:=nameOk r.Name&&decide (-100≤r.Sal∧r.Sal≤100)&&patsOk r.Pats&&kondsIn r.Conds (posVarsS r.Pats)&&actsIn r.Acts (posVarsS r.Pats) (posN r.Pats)
theorem patArgs_size(ps:List DPat):patArgs ps≤sizePatS ps:=by
 simp only[patArgs,sizePatS]
 have:∀l:List DPat,(l.map fun p=>p.Args.length).sum≤(l.map sizePat).sum:=by
  intro l
  induction l with
  |nil=>exact Nat.le_refl _
  |cons p l ih=>simp only[List.map_cons,List.sum_cons,sizePat,sizeArgS] at ih⊢;omega
 have:=this ps;omega
theorem has_same(ps:List DPat)(t:ByteArray):hasS (posVars ps) t=hasS (posVarsS ps) t:=by
 rw[Bool.eq_iff_iff,hasS_iff,hasS_iff,posVars_mem,posVarsS_mem]
def usedC(l:List ByteArray)(c:DCond):List ByteArray:=addVars l [c.L,c.R]
def usedE(l:List ByteArray)(e:DExpr):List ByteArray:=addVars l [e.L,e.R]
def usedA(l:List ByteArray)(a:DAct):List ByteArray:=a.Args.foldl usedE l
def usedV(r:DRule):List ByteArray:=r.Acts.foldl usedA (r.Conds.foldl usedC [])
def usedN(l:List DAct):Nat:=(l.map fun a=>2*a.Args.length).sum
theorem usedC_len(l:List ByteArray)(c:DCond):(usedC l c).length≤l.length+2:=addVars_len _ _
theorem usedE_len:∀(es:List DExpr)(l:List ByteArray),(es.foldl usedE l).length≤l.length+2*es.length
 |[],l=>Nat.le_refl _
 |e::es,l=>by
  have h1:=usedE_len es (usedE l e)
  have h2:(usedE l e).length≤l.length+2:=addVars_len _ _
  show(es.foldl usedE (usedE l e)).length≤_
  simp only[List.length_cons];omega
theorem usedCs_len:∀(cs:List DCond)(l:List ByteArray),(cs.foldl usedC l).length≤l.length+2*cs.length
 |[],l=>Nat.le_refl _
 |c::cs,l=>by
  have h1:=usedCs_len cs (usedC l c)
  have h2:=usedC_len l c
  show(cs.foldl usedC (usedC l c)).length≤_
  simp only[List.length_cons];omega
theorem usedAs_len:∀(xs:List DAct)(l:List ByteArray),(xs.foldl usedA l).length≤l.length+usedN xs
 |[],l=>Nat.le_refl _
 |a::xs,l=>by
  have h1:=usedAs_len xs (usedA l a)
  have h2:(usedA l a).length≤l.length+2*a.Args.length:=usedE_len _ _
  show(xs.foldl usedA (usedA l a)).length≤_
  simp only[usedN,List.map_cons,List.sum_cons] at h1⊢;omega
end
end AM
