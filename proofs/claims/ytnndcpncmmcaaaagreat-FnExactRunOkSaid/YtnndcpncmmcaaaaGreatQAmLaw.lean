import Derived.Test.YtnndcpncmmcaaaaGreatQAmAnn
import Derived.ChangeReads
import Derived.ChangeSame
import Derived.ReadAgain
import Derived.OpenShut
import Derived.WalkKit
import Derived.ProofKit
namespace AM
set_option linter.unusedVariables false
open Go
open Go.ChangeShapes Go.WideShapes Go.ChangeAt
open Go.RowKit (ok_one)
variable{U:jO}
inductive K1 (U:jO) where
 |int (k:IntKind)
 |bool
 |str
 |sl (τ:U.Ty)
def km:K1 U->U.C->Prop
 | .int k,c=>∃n,c=.lit (.int k n)
 | .bool,c=>∃b,c=.lit (.bool b)
 | .str,c=>∃s,c=.lit (.string s)
 | .sl τ,c=>∃xs,c=.sl τ xs
def KM:List (K1 U)->List U.C->Prop
 |[],[]=>True
 |k::ks,c::cs=>km k c/\KM ks cs
 |_,_=>False
theorem KM.len:∀{ks:List (K1 U)}{cs:List U.C},KM ks cs->cs.length=ks.length
 |[],[],_=>rfl
 |_::_,_::_,h=>by simp[KM.len h.2]
 |[],_::_,h=>h.elim
 |_::_,[],h=>h.elim
theorem KM.inv{k:K1 U}{ks:List (K1 U)}:∀{cs:List U.C},KM (k::ks) cs->∃c uJ,cs=c::uJ/\km k c/\KM ks uJ
 |[],h=>h.elim
 |c::cs,h=>⟨c,cs,rfl,h.1,h.2⟩
theorem KM.fk:∀{cs:List U.C},KM ([]:List (K1 U)) cs->cs=[]
 |[],_=>rfl
 |_::_,h=>h.elim
theorem KM.append:∀{ks ls:List (K1 U)}{cs ds:List U.C},KM ks cs->KM ls ds->KM (ks++ls) (cs++ds)
 |[],_,[],_,_,h=>h
 |_::_,_,_::_,_,h,h'=>⟨h.1,KM.append h.2 h'⟩
 |[],_,_::_,_,h,_=>h.elim
 |_::_,_,[],_,h,_=>h.elim
section
variable(E:Env U)
def tkF(g:TypeId->Option (List (K1 U))):Nat->List Field->Option (List (K1 U))
 |_,[]=>some []
 |off,f::r=>match g f.type with
  |some ks=>bif Nat.beq f.offset off&&Nat.beq (E.P.cellsOf f.type) ks.length then
    match tkF g (off+ks.length) r with
    |some ls=>some (ks++ls)
    |none=>none
   else none
  |none=>none
def tk:Nat->TypeId->Option (List (K1 U))
 |0,_=>none
 |d+1,t=>match E.P.underlying t with
  |some (.int k)=>some [.int k]
  |some .bool=>some [.bool]
  |some .string=>some [.str]
  |some (.slice e)=>match E.code e with|some τ=>some [.sl τ]|none=>none
  |some (.struct fs)=>match tkF E (tk d) 0 fs.toList with
   |some ks=>bif Nat.beq (E.P.cellsOf t) ks.length then some ks else none
   |none=>none
  |_=>none
structure JW(kinds:U.Ty->List (K1 U)):Prop where
 tk:∀e τ,E.code e=some τ->AM.tk E 8 e=some (kinds τ)
 wd:∀e τ,E.code e=some τ->E.P.cellsOf e=U.wd τ
 dec:∀τ cs,KM (kinds τ) cs->∃x,U.dec τ cs=some x
end
theorem zq{w:World}{b0:Nat}{a:Addr}{n:Nat}{cs:List Value}(h:w.cells? b0 a n=some cs):cs.length=n/\∀i v,cs[i]? =some v->w.cell? (a.add i)=some v:=by
 unfold World.cells? at h
 split at h
 ·have key:∀{m n:Nat}{cs:List Value},(List.range' m n).mapM (fun i=>w.cell? (a.add i))=some cs->cs.length=n/\∀i v,cs[i]? =some v->w.cell? (a.add (m+i))=some v:=by
   intro m n
   induction n generalizing m with
   |zero=>intro cs h;simp at h;subst h;exact⟨rfl,fun i v hv=>by simp at hv⟩
   |succ n ih=>
    intro cs h
    rw[List.range'_succ,List.mapM_cons] at h
    simp only[Option.pure_def,Option.bind_eq_bind,zdy,eZ] at h
    obtain⟨u,hu,us,sO,rfl⟩:=h
    obtain⟨h1,h2⟩:=ih sO
    refine⟨by simp[h1],fun i v hv=> ?_⟩
    cases i with
    |zero=>simp only[sT,eZ] at hv;subst hv;simpa using hu
    |succ i=>have:=h2 i v (by simpa using hv);simpa[Ot,zew 1 i] using this
  rw[List.range_eq_range'] at h
  obtain⟨h1,h2⟩:=key h
  exact⟨h1,fun i v hv=>by simpa using h2 i v hv⟩
 ·cases h
section
variable{E:Env U}{kinds:U.Ty->List (K1 U)}{H:Type}{enc:TypeId×Value->H}{w:World}{sp:Nat->Bool}{held:Bool}
def HQ(E:Env U)(w:World)(ks:List (K1 U))(cs:List Value):Prop:=
 ∃cells:List U.C,KM ks cells/\cells.length=cs.length/\∀(i:Nat)(c:U.C)(v:Value),cells[i]? =some c->cs[i]? =some v->Rp E w (·<w.heap.size) false c v []
theorem oQ{k:K1 U}{c:U.C}{v:Value}(h1:km k c)(h2:Rp E w (·<w.heap.size) false c v []):HQ E w [k] [v]:=by
 refine⟨[c],⟨h1,trivial⟩,rfl,fun i c' v' hc hv=> ?_⟩
 cases i with
 |zero=>simp only[sT,eZ] at hc hv;subst hc hv;exact h2
 |succ i=>simp at hc
theorem Jn{α:Type}(z:α){n:Nat}{p:Nat->α->Prop}(h:∀i,i<n->∃x,p i x):∃xs:List α,xs.length=n/\∀i x,xs[i]? =some x->i<n/\p i x:=by
 classical
 refine⟨(List.range n).map fun i=>if hi:i<n then(h i hi).choose else z,by simp,fun i x hx=> ?_⟩
 rw[mE] at hx
 by_cases hi:i<n
 ·simp only[JZ hi,Ef,eZ,dif_pos hi] at hx
  subst hx
  exact⟨hi,(h i hi).choose_spec⟩
 ·rw[lU (by simpa using hi)] at hx;cases hx
theorem vn(hE:JW E kinds){g:TypeId->Option (List (K1 U))}{r:TypeId->List Value->Option (DataW H×List MemPlace)}(hr:∀t cs x ks,r t cs=some x->g t=some ks->HQ E w ks cs){cs:List Value}:
  ∀{fs:List Field}{off:Nat}{ks:List (K1 U)}{xs:List (DataW H×List MemPlace)},tkF E g off fs=some ks->fs.mapM (fun f=>r f.type ((cs.drop f.offset).take (E.P.cellsOf f.type)))=some xs->
   ∃cells:List U.C,KM ks cells/\(off+cells.length<=cs.length\/cells=[])/\∀(i:Nat)(c:U.C)(v:Value),cells[i]? =some c->cs[off+i]? =some v->Rp E w (·<w.heap.size) false c v []
 |[],off,ks,xs,hk,hm=>by
  simp only[tkF,eZ] at hk
  subst hk
  exact⟨[],trivial,.inr rfl,fun i c v hc=>by simp at hc⟩
 |f::fs,off,ks,xs,hk,hm=>by
  simp only[tkF] at hk
  split at hk
  ·rename_i ks1 hg
   rw[fc] at hk
   split at hk
   ·rename_i hc
    simp only[fY] at hc
    have ho:=jp hc.1
    have hn:=jp hc.2
    split at hk
    ·rename_i ls hl
     cases hk
     rw[List.mapM_cons] at hm
     simp only[Option.pure_def,Option.bind_eq_bind,zdy,eZ] at hm
     obtain⟨y,hy,ys,hys,rfl⟩:=hm
     obtain⟨c1,g1,g2,g3⟩:=hr _ _ _ _ hy hg
     obtain⟨c2,i1,i2,i3⟩:=vn hE hr hl hys
     rw[ho,hn] at g2
     have hlen:=g1.len
     refine⟨c1++c2,g1.append i1,?_,fun i c v jr hv=> ?_⟩
     ·rw[kF]
      rw[mO,FT] at g2
      rcases i2 with i2|i2
      ·left;omega
      ·subst i2
       cases yL:c1 with
       |nil=>exact .inr rfl
       |cons _ _=>left;rw[yL] at g2 hlen;simp only[iD,ii] at*;omega
     ·by_cases hi:i<c1.length
      ·rw[u_ hi] at jr
       refine g3 i c v jr ?_
       rw[ho,hn,mP,if_pos (by omega),Eo]
       exact hv
      ·rw[va (by omega)] at jr
       refine i3 (i-c1.length) c v jr ?_
       rw[<-hv];congr 1;omega
    ·cases hk
   ·cases hk
  ·cases hk
theorem Ia(hE:JW E kinds):∀(n:Nat)(t:TypeId)(cs:List Value)(x:DataW H×List MemPlace)(d:Nat)(ks:List (K1 U)),DataW.trod enc E.P w 0 sp held n t cs=some x->tk E d t=some ks->HQ E w ks cs:=by
 intro n
 induction n with
 |zero=>intro t cs x d ks h;simp[DataW.trod] at h
 |succ n ih=>
  intro t cs x d ks h hk
  cases d with
  |zero=>cases hk
  |succ d=>
   rw[DataW.trod_step] at h
   unfold DataW.trodStep at h
   simp only[tk] at hk
   split at hk
   ·
    rename_i k hu
    cases hk
    rw[hu] at h
    match cs,h with
    |[.int k' m],h=>
     simp only at h
     split at h
     ·rename_i hc
      obtain⟨rfl,hw⟩:=hc
      refine oQ (E:=E) (w:=w) (c:=.lit (.int k' m)) ⟨m,rfl⟩ (.lit _ _ ⟨rfl,?_⟩)
      simp only[Lit.wf,fY,decide_eq_true_eq] at hw
      exact hw
     ·cases h
   ·
    rename_i hu
    cases hk
    rw[hu] at h
    match cs,h with
    |[.bool b],h=>exact oQ (E:=E) (w:=w) (c:=.lit (.bool b)) ⟨b,rfl⟩ (.lit _ _ ⟨rfl,trivial⟩)
   ·
    rename_i hu
    cases hk
    rw[hu] at h
    match cs,h with
    |[.string s],h=>
     simp only at h
     split at h
     ·rename_i hc
      refine oQ (E:=E) (w:=w) (c:=.lit (.string s)) ⟨s,rfl⟩ (.lit _ _ ⟨rfl,?_⟩)
      unfold maxLen at hc
      exact hc
     ·cases h
   ·
    rename_i e hu
    split at hk
    ·rename_i τ IH
     cases hk
     rw[hu] at h
     match cs,h with
     |[.slice none 0 0],_=>exact oQ (E:=E) (w:=w) (c:=.sl τ []) ⟨[],rfl⟩ (.nil _ _ _ _ (by simp))
     |[.slice (some a) len cap],h=>
      simp only at h
      split at h
      ·rename_i hc
       simp only[zdy,Option.map_eq_some_iff] at h
       obtain⟨asQ,he,_⟩:=h
       have mH:=hE.wd e τ IH
       have fB:∀i,i<len->∃y:U.T τ,∃row:List Value,w.cells? 0 (a.add (i*U.wd τ)) (U.wd τ)=some row/\∀(j:Nat)(c:U.C)(v:Value),(U.enc τ y)[j]? =some c->row[j]? =some v->Rp E w (·<w.heap.size) false c v []:=by
        intro i hi
        obtain⟨z,hz⟩:=mapM_each he i (oh.2 hi)
        simp only[zdy] at hz
        obtain⟨row,zc,hr2⟩:=hz
        obtain⟨cells,k1,k2,k3⟩:=ih e row z 8 (kinds τ) hr2 (hE.tk e τ IH)
        obtain⟨y,hy⟩:=hE.dec τ cells k1
        rw[mH] at zc
        exact⟨y,row,zc,by rw[U.jn τ cells y hy];exact k3⟩
       obtain⟨xs,hl,hx⟩:=Jn (U.dt τ) fB
       refine oQ (E:=E) (w:=w) (c:=.sl τ xs) ⟨xs,rfl⟩ ?_
       cases len with
       |zero=>
        have:xs=[]:=yG hl
        subst this
        exact .nil _ _ _ _ (by simp)
       |succ len=>
        have h0:∃y:U.T τ,xs[0]? =some y:=⟨xs[0]'(by omega),gr (by omega)⟩
        obtain⟨y0,hy0⟩:=h0
        obtain⟨_,al0,Ob,_⟩:=hx 0 y0 hy0
        obtain⟨KJ,hrc⟩:=zq Ob
        have hwp:=U.ka τ
        have L6:=hrc 0 (al0[0]'(by omega)) (gr (by omega))
        have aev:=World.cell?_spot L6
        obtain⟨b,off,spot⟩:=a
        have hs:spot=none:=by simpa[Addr.add] using aev
        subst hs
        have K0:∀i j:Nat,((⟨b,off,none⟩:Addr).add i).add j=⟨b,off+(i+j),none⟩:=by
         intro i j
         rw[Addr.add_mid,Addr.add_mid,Ot]
        have lB:∀i,i<(len+1)*U.wd τ->∃v,w.cell? ⟨b,off+i,none⟩=some v:=by
         intro i hi
         have hq:i/U.wd τ<len+1:=Nat.div_lt_of_lt_mul (by rw[RR];exact hi)
         have qt:xs[i/U.wd τ]? =some (xs[i/U.wd τ]'(by omega)):=gr (by omega)
         obtain⟨_,row,hr,_⟩:=hx _ _ qt
         obtain⟨l1,l2⟩:=zq hr
         have hm:i%U.wd τ<row.length:=by rw[l1];exact Nat.mod_lt _ hwp
         have:=l2 _ _ (gr hm)
         rw[K0] at this
         rw[Nat.div_add_mod'] at this
         exact⟨_,this⟩
        have hb:b<w.heap.size:=by
         obtain⟨v,hv⟩:=lB 0 (Nat.mul_pos (Nat.succ_pos _) hwp)
         unfold World.cell? at hv
         rcases lR b w.heap.size with g|g
         ·exact g
         ·simp only[Array.getElem?_eq_none g] at hv
          simp at hv
        have:=Rp.shr (E:=E) (w:=w) (F:=(·<w.heap.size)) τ xs b off cap (fun i=>(w.cell? ⟨b,off+i,none⟩).getD undef) hb (by omega) (by unfold maxLen at*;omega) (fun i hi=>by
         obtain⟨v,hv⟩:=lB i (by rw[<-hl];exact hi)
         rw[hv];rfl) (fun i y j c qt hj=>by
         obtain⟨_,row,hr,TA⟩:=hx i y qt
         obtain⟨l1,l2⟩:=zq hr
         have V1:j<row.length:=by
          rw[l1,<-U.cP τ y]
          rcases lR j (U.enc τ y).length with g|g
          ·exact g
          ·rw[lU g] at hj;cases hj
         have h1:=l2 j _ (gr V1)
         rw[K0] at h1
         rw[h1]
         exact TA j c _ hj (gr V1))
        rw[hl] at this
        exact this
      ·cases h
    ·cases hk
   ·
    rename_i fs hu
    split at hk
    ·rename_i ks' hkf
     rw[fc] at hk
     split at hk
     ·rename_i fa
      cases hk
      have fa:=jp fa
      rw[hu] at h
      simp only at h
      split at h
      ·rename_i hlen
       simp only[Option.map_eq_some_iff] at h
       obtain⟨xs,hx,_⟩:=h
       obtain⟨cells,g1,g2,g3⟩:=vn hE (g:=tk E d) (fun t cs x ks h1 h2=>ih t cs x d ks h1 h2) hkf hx
       exact⟨cells,g1,by rw[g1.len,hlen,fa],fun i c v hc hv=>g3 i c v hc (by simpa using hv)⟩
      ·cases h
     ·cases hk
    ·cases hk
   ·cases hk
theorem O0(hE:JW E kinds){t:TypeId}{ks:List (K1 U)}(hk:tk E 8 t=some ks){v:Value}{d:DataW H}{p:List MemPlace}(h:DataW.Trod enc E.P w 0 sp held t v d p):HQ E w ks v.cells.toList:=by
 obtain⟨n,hn⟩:=h
 exact Ia hE n t _ _ 8 ks hn hk
end
section
variable{E:Env U}{kinds:U.Ty->List (K1 U)}{H:Type}{enc:TypeId×Value->H}{w:World}{sp:Nat->Bool}{held:Bool}{r:Reach}{b0:Nat}{t:TypeId}{v:Value}{d:DataW H}{p:List MemPlace}
theorem QP(hE:JW E kinds){fs:Array Field}{τ:U.Ty}(ht:E.P.underlying t=some (.struct fs))(hc:E.code t=some τ)(hv:Value.okWide E.P w r b0 t v)(h:DataW.Trod enc E.P w 0 sp held t v d p):∃x,mN E w (·<w.heap.size) .ro (.agg (U.enc τ x)) v []:=by
 obtain⟨cs,rfl,_⟩:=okWide_struct ht hv
 obtain⟨cells,h1,h2,h3⟩:=O0 hE (hE.tk t τ hc) h
 obtain⟨x,hx⟩:=hE.dec τ cells h1
 have he:=U.jn τ cells x hx
 refine⟨x,cs.toList,by simp,?_,fun i c jr=> ?_,rfl⟩
 ·rw[he];exact h2.symm
 ·rw[he] at jr
  have fx:i<cs.toList.length:=by
   have h4:cells.length=cs.toList.length:=h2
   rw[<-h4]
   rcases lR i cells.length with g|g
   ·exact g
   ·rw[lU g] at jr;cases jr
  exact h3 i c _ jr (dz fx)
end
section
variable{E:Env U}{w w':World}
theorem JN:∀{ms:List Mode},tO ms=true->p8 ms=true
 |[],_=>rfl
 |m::ms,h=>by
  simp only[tO,zdr,fY] at h
  cases m with
  |ro=>exact JN (ms:=ms) h.2
  |wr=>simp at h
  |mv=>simp at h
  |box _=>simp at h
theorem QL(tw:Lj E w (·<w.heap.size)){f:FuncId}{k:kq U}(hk:eL E f k){x:k.α}(hp:∀p∈k.pre x,p){vs:List Value}{ls:List (List Nat)}(oZ:iN E w (·<w.heap.size) k.md (k.ds x) vs ls)(hro:tO k.md=true)
  (sX:k.ot x=⟨[.one (.lit (.bool true))],[],[]⟩):Calls E.P f vs.toArray w fun e w'=>e=.returned (.bool true)/\fm (fun _=>False) w w':=by
 have hls:=LB oZ hro
 refine(hk x hp w _ vs ls (fun _ h=>h) tw oZ (oK (JN hro)) (by rw[hls];exact MH) (by rw[hls];simp)).mono ?_
 rintro e w' ⟨us,oi,gS,rfl,h1,h2,_⟩
 rw[sX] at h2
 rw[hls] at h1
 cases us with
 |nil=>exact h2.elim
 |cons u us=>cases oi with
  |nil=>exact h2.elim
  |cons l oi=>
   obtain⟨h3,h4⟩:=h2
   have h3:Rp E w' _ true (.lit (.bool true)) u l:=h3
   cases us with
   |nil=>exact⟨by rw[h3.kL.2.1];rfl,h1.mono (by simp)⟩
   |cons _ _=>exact h4.elim
end
section
variable{P:Program}{H:Type}{enc:TypeId×Value->H}
theorem Po{b:TypeId}{f:Func}{s:ChangeSpec}{apart fresh handsOn:Bool}{W W':World}{args:Array Value}{ds gs:List (DataW H)}{before:List MemPlace}
  (hW:DataW.Whole enc P f.params.toList s.vars apart W args.toList ds gs before) (VG:s.vars=[]) (kx:fm (fun _=>False) W W')
  (hl:laidOutB P=true) (hm:mapsRowed P=true) (hz:((List.range P.types.size).all fun t=>match P.underlying t with|some (.slice e)=>decide (0<P.cellsOf e)|_=>true)=true)
  (hps:∀t∈f.params.toList,t<P.types.size) (hrt:f.resultTypes= #[b]) (hb:P.underlying b=some .bool)
  (Qb:s.fn H (ds++gs)={results:=[.lit (.bool true)],args:=ds}):s.post enc P f apart fresh handsOn false W args (.bool true) W':=by
 have fx:=hW.lt
 have hW0:=hW
 obtain⟨p,q,hA,hV,rfl,hfz,oB⟩:=hW
 rw[VG] at hV
 obtain⟨rfl,rfl⟩:=trodVars_none hV
 simp only[sI] at*
 have aex:∀x∈p,W.sameAt W' x:=by
  intro x hx
  have h1:=fx x hx
  cases x with
  |cell b off=>exact World.cell?_of_block (kx.block b h1 (fun h=>h))
  |map b=>exact kx.block b h1 (fun h=>h)
 have hA':DataW.TrodAll enc P W' 0 (fun _=>true) true f.params.toList args.toList ds p:=by
  have key:∀{ts:List TypeId}{vs:List Value}{ds:List (DataW H)}{p:List MemPlace},DataW.TrodAll enc P W 0 (fun _=>true) true ts vs ds p->(∀x∈p,W.sameAt W' x)->DataW.TrodAll enc P W' 0 (fun _=>true) true ts vs ds p:=by
   intro ts
   induction ts with
   |nil=>intro vs ds p h _;cases vs<;>cases ds<;>exact h
   |cons t ts ih=>
    intro vs ds p h hs
    cases vs with
    |nil=>cases ds<;>exact h
    |cons v vs=>
     cases ds with
     |nil=>exact h
     |cons d ds=>
      obtain⟨p1,q1,⟨n,hn⟩,h2,rfl⟩:=h
      exact⟨p1,q1,⟨n,DataW.trod_carry n _ _ _ hn (fun x hx=>hs x (oE _ hx))⟩,ih h2 (fun x hx=>hs x (pA _ hx)),rfl⟩
  exact key hA aex
 have ib:∀sp:Nat->Bool,(∀x∈p,sp x.block=true)->DataW.TrodAll enc P W' 0 sp true f.params.toList args.toList (s.fn H ds).args p:=by
  intro sp RB
  rw[Qb]
  exact DataW.TrodAll.respare (kids_rows hl hm) (fun t e ht he=>slices_full_of P hz t e ht he) hps hA' RB
 have sX:∀(b':Nat)(sp:Nat->Bool)(hd:Bool),DataW.TrodAll enc P W' b' sp hd f.resultTypes.toList ((Value.bool true).resultList f.resultTypes.size) (s.fn H ds).results []:=by
  intro b' sp hd
  rw[Qb,hrt]
  exact trodAll_mk1 ⟨1,by simp[DataW.trod,Value.cells,hb]⟩
 refine⟨ds,_,p,[],p,[],hW0,by simpa using sX _ _ _,by simpa using ib _ (fun x hx=>by simpa using fx x hx),by rw[VG,sI,Qb];rfl,⟨kx.os,kx.output,fun i hi=> ?_⟩,fun h=>by cases h⟩
 rw[kx.block i hi (fun h=>h)]
 cases W.heap[i]? with
 |none=>rfl
 |some o=>cases o<;>first|exact⟨rfl,rfl,rfl,fun _ _=>rfl⟩|exact .inr ⟨rfl,rfl⟩|rfl
end
end AM
