import Derived.Test.YtknfcngfhlpaeaaGreatDoorQAmOps3
import Derived.Great.FillDense
import Derived.Great.BuildSlice
namespace AM
set_option linter.unusedVariables false
open Go
variable{U:kz}{E:Env U}{pm:Pm}
variable{F:Nat->Prop}{kv:Key->Value}{fp:Key->List Nat}{σ:ak U}{a:Act}{w:World}{bad:Key->Bool}
theorem Mi{x:AV U}{v:Value}(h:RV E w F kv fp bad x v):kU E w F kv fp bad x.cs v.cells.toList/\v.cells.size=x.cs.length:=by
 obtain⟨vs,h1,h2⟩:=h
 cases hg:x.agg with
 |true=>simp only[hg,if_true] at h2;subst h2;exact⟨by simpa[Value.cells] using h1,by simp[Value.cells,h1.1]⟩
 |false=>
  simp only[hg] at h2
  have h2:vs=[v]:=by simpa using h2
  subst h2
  have hl:x.cs.length=1:=by simpa using h1.1
  obtain⟨y,hy⟩:∃y,x.cs[0]? =some y:=⟨_,eW (by omega)⟩
  have ho:=(h1.2 0 y v hy rfl).1.1
  have hc:v.cells= #[v]:=by cases v<;>first|rfl|(simp[Value.oneCell'] at ho)
  rw[hc]
  exact⟨by simpa using h1,by simp[hl]⟩
theorem kU.take{xs:List (AC U)}{vs:List Value}(h:kU E w F kv fp bad xs vs)(n:Nat):kU E w F kv fp bad (xs.take n) (vs.take n):=by
 refine⟨by simp[h.1],fun i x v hx hv=> ?_⟩
 rw[oT] at hx hv
 split at hx
 ·rename_i hi;rw[if_pos hi] at hv;exact h.2 i x v hx hv
 ·cases hx
theorem kU.drop{xs:List (AC U)}{vs:List Value}(h:kU E w F kv fp bad xs vs)(n:Nat):kU E w F kv fp bad (xs.drop n) (vs.drop n):=by
 refine⟨by simp[h.1],fun i x v hx hv=> ?_⟩
 rw[Fx] at hx hv
 exact h.2 _ x v hx hv
theorem kU.append{xs ys:List (AC U)}{vs us:List Value}(h:kU E w F kv fp bad xs vs)(h':kU E w F kv fp bad ys us):kU E w F kv fp bad (xs++ys) (vs++us):=by
 refine⟨by simp[h.1,h'.1],fun i x v hx hv=> ?_⟩
 by_cases hi:i<xs.length
 ·rw[wg hi] at hx
  rw[wg (by rw[<-h.1];exact hi)] at hv
  exact h.2 i x v hx hv
 ·rw[ya (by omega)] at hx
  rw[ya (by rw[<-h.1];omega),<-h.1] at hv
  exact h'.2 _ x v hx hv
theorem Rg(off:Nat)(cs:Array Value)(cells:Array Value)(hle:off+cs.size<=cells.size):
  (cs.zipIdx.foldl (fun a (x:Value×Nat)=>a.setIfInBounds (off+x.2) x.1) cells).toList=cells.toList.take off++cs.toList++cells.toList.drop (off+cs.size):=by
 have h:=Great.foldl_set off cs.toList 0 cells
 have e:cs.zipIdx.foldl (fun a (x:Value×Nat)=>a.setIfInBounds (off+x.2) x.1) cells=(cs.toList.zipIdx 0).foldl (fun a (x:Value×Nat)=>a.setIfInBounds (off+x.2) x.1) cells:=by
  rw[<-Array.foldl_toList,Array.toList_zipIdx]
 rw[e]
 refine QO fun k=> ?_
 rw[JE,h.2 k]
 simp only[HD,D4]
 by_cases h1:k<off
 ·rw[if_neg (by omega),we,wg (by simp;omega),oT,if_pos h1,JE]
 ·by_cases h2:k<off+cs.size
  ·rw[if_pos (by omega),wg (by simp;omega),ya (by simp;omega)]
   congr 1
   simp;omega
  ·rw[if_neg (by omega),ya (by simp;omega),Fx,JE]
   congr 1
   simp;omega
theorem ajA{pl:List (Nat×Nat)}:∀{fs:List Nat}{xs:List (SV U)}{cells mS:List (AC U)}{arr:Array Value}{vs:List Value},gD pl cells fs xs=some mS->
  kU E w F kv fp bad cells arr.toList->xs.length=vs.length->(∀(i:Nat)(x:SV U)(v:Value),xs[i]? =some x->vs[i]? =some v->RS E w F kv fp bad x v)->
  ∃P0,Instr.fill (pl.toArray[·]?) arr (fs.zip vs)=some P0/\kU E w F kv fp bad mS P0.toList:=by
 intro fs
 induction fs with
 |nil=>
  intro xs cells mS arr vs h hc hl hv
  cases xs with
  |nil=>simp only[gD,fM] at h;subst h;exact⟨arr,by simp[Instr.fill],hc⟩
  |cons x xs=>simp[gD] at h
 |cons f fs ih=>
  intro xs cells mS arr vs h hc hl hv
  cases xs with
  |nil=>simp[gD] at h
  |cons x xs=>
   cases vs with
   |nil=>simp at hl
   |cons v vs=>
    cases x with
    |uZ l=>simp[gD] at h
    |fn p=>simp[gD] at h
    |Ff g l=>simp[gD] at h
    |v x=>
     simp only[gD] at h
     split at h
     ·rename_i off n hp
      cases hb:(Nat.beq x.cs.length n&&Nat.ble (off+n) cells.length)<;>simp only[hb,cond_false,cond_true] at h
      ·cases h
      ·simp only[cH] at hb
       have h1:=mc hb.1
       have h2:=HG hb.2
       obtain⟨h3,h4⟩:=Mi (hv 0 (.v x) v rfl rfl)
       have gB:cells.length=arr.size:=by simpa using hc.1
       have hle:off+v.cells.size<=arr.size:=by omega
       obtain⟨c',h5,h6⟩:=ih (arr:=v.cells.zipIdx.foldl (fun a (x:Value×Nat)=>a.setIfInBounds (off+x.2) x.1) arr) (vs:=vs) h
        (by rw[Rg off v.cells arr hle,h4,h1];exact((hc.take off).append h3).append (hc.drop (off+n)))
        (by simpa using hl) (fun i x v hx O1=>hv (i+1) x v (by simpa using hx) (by simpa using O1))
       refine⟨c',?_,h6⟩
       have j6:pl.toArray[f]? =some (off,n):=by simpa using hp
       simp only[List.zip_cons_cons,Instr.fill,j6]
       rw[if_neg]
       ·exact h5
       ·simp only[DW,decide_eq_true_eq]
        omega
     ·cases h
theorem aiE{o:Oper}{t:TypeId}{parts:Array (Nat×Operand)}{xs:List (SV U)}{pl:List (Nat×Nat)}{z:Value}{l cs:List (AC U)}(ho:o.op=.build t parts)
  (hx:xs.length=parts.toList.length) (hv:∀(i:Nat)(x:SV U)(q:Nat×Operand),xs[i]? =some x->parts.toList[i]? =some q->RS E w F kv fp bad x (a.eval q.2))
  (zU:E.places t=some pl) (hz:(E.P.info? t).bind (·.zero)=some z) (hl:jf z.cells.toList=some l) (hc:gD pl l (parts.toList.map (·.1)) xs=some cs):
  cy E F kv fp bad a w o (.v ⟨true,cs⟩):=by
 obtain⟨cells,h1,h2⟩:=ajA (arr:=z.cells) (vs:=parts.toList.map fun q=>a.eval q.2) (E:=E) (w:=w) (F:=F) (kv:=kv) (fp:=fp) (bad:=bad) hc (RM hl) (by simp[hx]) (fun i x v QT O1=>by
  rw[mw] at O1
  cases hq:parts.toList[i]? with
  |none=>rw[hq] at O1;cases O1
  |some q=>rw[hq] at O1;cases O1;exact hv i x q QT hq)
 refine⟨.agg cells,?_,cells.toList,h2,by simp⟩
 unfold execOp;simp only[ho]
 refine gY (run_build (P:=E.P) w t _ cells ?_)
 unfold Env.places at zU
 split at zU
 ·rename_i fs hu
  unfold Program.built
  cases hi:E.P.info? t with
  |none=>rw[hi] at hz;cases hz
  |some it=>
   rw[hi] at hz
   have QS:it.zero=some z:=hz
   simp only[hu,QS,zU]
   have e:(parts.map fun(i,x)=>(i,a.eval x)).toList=(parts.toList.map (·.1)).zip (parts.toList.map fun q=>a.eval q.2):=by
    rw[List.zip_map',ZD]
   rw[e];exact h1
 ·cases zU
theorem aiy{o:Oper}{t:TypeId}{x:Operand}{f off n:Nat}{ft:TypeId}{g:Bool}{cs:List (AC U)}(ho:o.op=.field t x f)(hx:RS E w F kv fp bad (.v ⟨true,cs⟩) (a.eval x))
  (hf:E.SH t f=some (off,ft)) (hs:E.size ft=some n) (hg:E.isAgg ft=some g) (hn:(Nat.ble (off+n) cs.length&&(g||Nat.beq n 1))=true):
  cy E F kv fp bad a w o (.v ⟨g,(cs.drop off).take n⟩):=by
 obtain⟨vs,h1,h2⟩:=hx
 simp only[if_true] at h2
 obtain⟨fs,fd,hu,hfd,h3,h4⟩:=aa4 hf
 simp only[cH] at hn
 have hle:=HG hn.1
 obtain⟨d,Jx,hd⟩:=RR hg
 have hlen:cs.length=vs.length:=h1.1
 unfold Env.size at hs
 cases hi:E.P.info? ft with
 |none=>rw[hi] at hs;cases hs
 |some i=>
  rw[hi] at hs
  simp only[D3,fM] at hs
  cases g with
  |true=>
   have Pz:(Go.isAgg ft).run E.P w=.ok true w:=by
    unfold Go.isAgg;rw[Sem.run_bind,run_underlying Jx w];cases d<;>simp_all
   refine⟨.agg (vs.toArray.extract off (off+n)),?_,(vs.drop off).take n,(h1.drop off).take n,?_⟩
   ·unfold execOp;simp only[ho,h2]
    refine gY ?_
    simp[Instr.field,run_underlying hu,hfd,asAgg,part,h4,Pz,Go.sizeOf,typeInfo,hi,h3,hs]
   ·simp
  |false=>
   simp only[Fw] at hn
   have O':=mc hn.2
   subst O'
   have Pz:(Go.isAgg ft).run E.P w=.ok false w:=by
    unfold Go.isAgg;rw[Sem.run_bind,run_underlying Jx w];cases d<;>simp_all
   have hv:vs[off]? =some (vs[off]'(by omega)):=eW _
   refine⟨vs[off]'(by omega),?_,(vs.drop off).take 1,(h1.drop off).take 1,?_⟩
   ·unfold execOp;simp only[ho,h2]
    refine gY ?_
    simp[Instr.field,run_underlying hu,hfd,asAgg,part,h4,Pz,h3,hv]
   ·simp only[wb,if_false]
    rw[Nu (by omega)]
    rfl
end AM
