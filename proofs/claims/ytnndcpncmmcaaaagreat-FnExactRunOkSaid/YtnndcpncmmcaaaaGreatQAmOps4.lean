import Derived.Test.YtnndcpncmmcaaaaGreatQAmOps3
import Derived.Great.FillDense
import Derived.Great.BuildSlice
namespace AM
set_option linter.unusedVariables false
open Go
variable{U:jO}{E:Env U}{pm:Pm}
variable{F:Nat->Prop}{kv:Key->Value}{fp:Key->List Nat}{σ:ah U}{a:Act}{w:World}{bad:Key->Bool}
theorem Ko{x:AV U}{v:Value}(h:RV E w F kv fp bad x v):kS E w F kv fp bad x.cs v.cells.toList/\v.cells.size=x.cs.length:=by
 obtain⟨vs,h1,h2⟩:=h
 cases hg:x.agg with
 |true=>simp only[hg,if_true] at h2;subst h2;exact⟨by simpa[Value.cells] using h1,by simp[Value.cells,h1.1]⟩
 |false=>
  simp only[hg] at h2
  have h2:vs=[v]:=by simpa using h2
  subst h2
  have hl:x.cs.length=1:=by simpa using h1.1
  obtain⟨y,hy⟩:∃y,x.cs[0]? =some y:=⟨_,gr (by omega)⟩
  have ho:=(h1.2 0 y v hy rfl).1.1
  have hc:v.cells= #[v]:=by cases v<;>first|rfl|(simp[Value.oneCell'] at ho)
  rw[hc]
  exact⟨by simpa using h1,by simp[hl]⟩
theorem kS.take{xs:List (AC U)}{vs:List Value}(h:kS E w F kv fp bad xs vs)(n:Nat):kS E w F kv fp bad (xs.take n) (vs.take n):=by
 refine⟨by simp[h.1],fun i x v hx hv=> ?_⟩
 rw[mP] at hx hv
 split at hx
 ·rename_i hi;rw[if_pos hi] at hv;exact h.2 i x v hx hv
 ·cases hx
theorem kS.drop{xs:List (AC U)}{vs:List Value}(h:kS E w F kv fp bad xs vs)(n:Nat):kS E w F kv fp bad (xs.drop n) (vs.drop n):=by
 refine⟨by simp[h.1],fun i x v hx hv=> ?_⟩
 rw[Eo] at hx hv
 exact h.2 _ x v hx hv
theorem kS.append{xs ys:List (AC U)}{vs us:List Value}(h:kS E w F kv fp bad xs vs)(h':kS E w F kv fp bad ys us):kS E w F kv fp bad (xs++ys) (vs++us):=by
 refine⟨by simp[h.1,h'.1],fun i x v hx hv=> ?_⟩
 by_cases hi:i<xs.length
 ·rw[u_ hi] at hx
  rw[u_ (by rw[<-h.1];exact hi)] at hv
  exact h.2 i x v hx hv
 ·rw[va (by omega)] at hx
  rw[va (by rw[<-h.1];omega),<-h.1] at hv
  exact h'.2 _ x v hx hv
theorem R6(off:Nat)(cs:Array Value)(cells:Array Value)(hle:off+cs.size<=cells.size):
  (cs.zipIdx.foldl (fun a (x:Value×Nat)=>a.setIfInBounds (off+x.2) x.1) cells).toList=cells.toList.take off++cs.toList++cells.toList.drop (off+cs.size):=by
 have h:=Great.foldl_set off cs.toList 0 cells
 have e:cs.zipIdx.foldl (fun a (x:Value×Nat)=>a.setIfInBounds (off+x.2) x.1) cells=(cs.toList.zipIdx 0).foldl (fun a (x:Value×Nat)=>a.setIfInBounds (off+x.2) x.1) cells:=by
  rw[<-Array.foldl_toList,Array.toList_zipIdx]
 rw[e]
 refine Ow fun k=> ?_
 rw[Eg,h.2 k]
 simp only[Aj,yM]
 by_cases h1:k<off
 ·rw[if_neg (by omega),qc,u_ (by simp;omega),mP,if_pos h1,Eg]
 ·by_cases h2:k<off+cs.size
  ·rw[if_pos (by omega),u_ (by simp;omega),va (by simp;omega)]
   congr 1
   simp;omega
  ·rw[if_neg (by omega),va (by simp;omega),Eo,Eg]
   congr 1
   simp;omega
theorem aoL{pl:List (Nat×Nat)}:∀{fs:List Nat}{xs:List (SV U)}{cells ot:List (AC U)}{arr:Array Value}{vs:List Value},gK pl cells fs xs=some ot->
  kS E w F kv fp bad cells arr.toList->xs.length=vs.length->(∀(i:Nat)(x:SV U)(v:Value),xs[i]? =some x->vs[i]? =some v->RS E w F kv fp bad x v)->
  ∃QK,Instr.fill (pl.toArray[·]?) arr (fs.zip vs)=some QK/\kS E w F kv fp bad ot QK.toList:=by
 intro fs
 induction fs with
 |nil=>
  intro xs cells ot arr vs h hc hl hv
  cases xs with
  |nil=>simp only[gK,eZ] at h;subst h;exact⟨arr,by simp[Instr.fill],hc⟩
  |cons x xs=>simp[gK] at h
 |cons f fs ih=>
  intro xs cells ot arr vs h hc hl hv
  cases xs with
  |nil=>simp[gK] at h
  |cons x xs=>
   cases vs with
   |nil=>simp at hl
   |cons v vs=>
    cases x with
    |tX l=>simp[gK] at h
    |fn p=>simp[gK] at h
    |El g l=>simp[gK] at h
    |v x=>
     simp only[gK] at h
     split at h
     ·rename_i off n hp
      cases hb:(Nat.beq x.cs.length n&&Nat.ble (off+n) cells.length)<;>simp only[hb,cond_false,cond_true] at h
      ·cases h
      ·simp only[fY] at hb
       have h1:=jp hb.1
       have h2:=H6 hb.2
       obtain⟨h3,h4⟩:=Ko (hv 0 (.v x) v rfl rfl)
       have fa:cells.length=arr.size:=by simpa using hc.1
       have hle:off+v.cells.size<=arr.size:=by omega
       obtain⟨c',h5,h6⟩:=ih (arr:=v.cells.zipIdx.foldl (fun a (x:Value×Nat)=>a.setIfInBounds (off+x.2) x.1) arr) (vs:=vs) h
        (by rw[R6 off v.cells arr hle,h4,h1];exact((hc.take off).append h3).append (hc.drop (off+n)))
        (by simpa using hl) (fun i x v hx Eh=>hv (i+1) x v (by simpa using hx) (by simpa using Eh))
       refine⟨c',?_,h6⟩
       have jf:pl.toArray[f]? =some (off,n):=by simpa using hp
       simp only[List.zip_cons_cons,Instr.fill,jf]
       rw[if_neg]
       ·exact h5
       ·simp only[Ee,decide_eq_true_eq]
        omega
     ·cases h
theorem anE{o:Oper}{t:TypeId}{parts:Array (Nat×Operand)}{xs:List (SV U)}{pl:List (Nat×Nat)}{z:Value}{l cs:List (AC U)}(ho:o.op=.build t parts)
  (hx:xs.length=parts.toList.length) (hv:∀(i:Nat)(x:SV U)(q:Nat×Operand),xs[i]? =some x->parts.toList[i]? =some q->RS E w F kv fp bad x (a.eval q.2))
  (wl:E.Ks t=some pl) (hz:(E.P.info? t).bind (·.zero)=some z) (hl:iW z.cells.toList=some l) (hc:gK pl l (parts.toList.map (·.1)) xs=some cs):
  cA E F kv fp bad a w o (.v ⟨true,cs⟩):=by
 obtain⟨cells,h1,h2⟩:=aoL (arr:=z.cells) (vs:=parts.toList.map fun q=>a.eval q.2) (E:=E) (w:=w) (F:=F) (kv:=kv) (fp:=fp) (bad:=bad) hc (Si hl) (by simp[hx]) (fun i x v E3 Eh=>by
  rw[mE] at Eh
  cases hq:parts.toList[i]? with
  |none=>rw[hq] at Eh;cases Eh
  |some q=>rw[hq] at Eh;cases Eh;exact hv i x q E3 hq)
 refine⟨.agg cells,?_,cells.toList,h2,by simp⟩
 unfold execOp;simp only[ho]
 refine gF (run_build (P:=E.P) w t _ cells ?_)
 unfold Env.Ks at wl
 split at wl
 ·rename_i fs hu
  unfold Program.built
  cases hi:E.P.info? t with
  |none=>rw[hi] at hz;cases hz
  |some it=>
   rw[hi] at hz
   have LS:it.zero=some z:=hz
   simp only[hu,LS,wl]
   have e:(parts.map fun(i,x)=>(i,a.eval x)).toList=(parts.toList.map (·.1)).zip (parts.toList.map fun q=>a.eval q.2):=by
    rw[List.zip_map',zeo]
   rw[e];exact h1
 ·cases wl
theorem anx{o:Oper}{t:TypeId}{x:Operand}{f off n:Nat}{ft:TypeId}{g:Bool}{cs:List (AC U)}(ho:o.op=.field t x f)(hx:RS E w F kv fp bad (.v ⟨true,cs⟩) (a.eval x))
  (hf:E.Ug t f=some (off,ft)) (hs:E.size ft=some n) (hg:E.isAgg ft=some g) (hn:(Nat.ble (off+n) cs.length&&(g||Nat.beq n 1))=true):
  cA E F kv fp bad a w o (.v ⟨g,(cs.drop off).take n⟩):=by
 obtain⟨vs,h1,h2⟩:=hx
 simp only[if_true] at h2
 obtain⟨fs,fd,hu,hfd,h3,h4⟩:=adS hf
 simp only[fY] at hn
 have hle:=H6 hn.1
 obtain⟨d,J3,hd⟩:=Sn hg
 have hlen:cs.length=vs.length:=h1.1
 unfold Env.size at hs
 cases hi:E.P.info? ft with
 |none=>rw[hi] at hs;cases hs
 |some i=>
  rw[hi] at hs
  simp only[Ef,eZ] at hs
  cases g with
  |true=>
   have Qq:(Go.isAgg ft).run E.P w=.ok true w:=by
    unfold Go.isAgg;rw[Sem.run_bind,run_underlying J3 w];cases d<;>simp_all
   refine⟨.agg (vs.toArray.extract off (off+n)),?_,(vs.drop off).take n,(h1.drop off).take n,?_⟩
   ·unfold execOp;simp only[ho,h2]
    refine gF ?_
    simp[Instr.field,run_underlying hu,hfd,asAgg,part,h4,Qq,Go.sizeOf,typeInfo,hi,h3,hs]
   ·simp
  |false=>
   simp only[JY] at hn
   have NE:=jp hn.2
   subst NE
   have Qq:(Go.isAgg ft).run E.P w=.ok false w:=by
    unfold Go.isAgg;rw[Sem.run_bind,run_underlying J3 w];cases d<;>simp_all
   have hv:vs[off]? =some (vs[off]'(by omega)):=gr _
   refine⟨vs[off]'(by omega),?_,(vs.drop off).take 1,(h1.drop off).take 1,?_⟩
   ·unfold execOp;simp only[ho,h2]
    refine gF ?_
    simp[Instr.field,run_underlying hu,hfd,asAgg,part,h4,Qq,h3,hv]
   ·simp only[yN,if_false]
    rw[zel (by omega)]
    rfl
end AM
