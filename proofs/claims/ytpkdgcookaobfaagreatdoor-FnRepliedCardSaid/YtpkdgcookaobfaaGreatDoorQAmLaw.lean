/- THE ABSTRACT MACHINE: what a statement's frame hands in, as data; the statement out of a contract. -/
import Derived.Test.YtpkdgcookaobfaaGreatDoorQAmAnn
import Derived.ChangeReads
import Derived.ChangeSame
import Derived.ReadAgain
import Derived.OpenShut
import Derived.WalkKit
import Derived.ProofKit
namespace AM
set_option linter.unusedVariables false
open Go
open Go.ChangeShapes Go.WideShapes Go.ChangeAt
open Go.RowKit (ok_one)
variable{U:lz}
inductive K1 (U:lz) where
 |int (k:IntKind)
 |bool
 |str
 |sl (τ:U.Ty)
def km:K1 U->U.C->Prop
 | .int k,c=>∃n,c=.lit (.int k n)
 | .bool,c=>∃b,c=.lit (.bool b)
 | .str,c=>∃s,c=.lit (.string s)
 | .sl τ,c=>∃xs,c=.sl τ xs
def KM:List (K1 U)->List U.C->Prop
 |[],[]=>True
 |k::ks,c::cs=>km k c/\KM ks cs
 |_,_=>False
theorem KM.len:∀{ks:List (K1 U)}{cs:List U.C},KM ks cs->cs.length=ks.length
 |[],[],_=>rfl
 |_::_,_::_,h=>by simp[KM.len h.2]
 |[],_::_,h=>h.elim
 |_::_,[],h=>h.elim
theorem KM.inv{k:K1 U}{ks:List (K1 U)}:∀{cs:List U.C},KM (k::ks) cs->∃c vT,cs=c::vT/\km k c/\KM ks vT
 |[],h=>h.elim
 |c::cs,h=>⟨c,cs,rfl,h.1,h.2⟩
theorem KM.pw:∀{cs:List U.C},KM ([]:List (K1 U)) cs->cs=[]
 |[],_=>rfl
 |_::_,h=>h.elim
theorem KM.append:∀{ks ls:List (K1 U)}{cs ds:List U.C},KM ks cs->KM ls ds->KM (ks++ls) (cs++ds)
 |[],_,[],_,_,h=>h
 |_::_,_,_::_,_,h,h'=>⟨h.1,KM.append h.2 h'⟩
 |[],_,_::_,_,h,_=>h.elim
 |_::_,_,[],_,h,_=>h.elim
section
variable(E:Env U)
def tkF(g:TypeId->Option (List (K1 U))):Nat->List Field->Option (List (K1 U))
 |_,[]=>some []
 |off,f::r=>match g f.type with
  |some ks=>bif Nat.beq f.offset off&&Nat.beq (E.P.cellsOf f.type) ks.length then
    match tkF g (off+ks.length) r with
    |some ls=>some (ks++ls)
    |none=>none
   else none
  |none=>none
def tk:Nat->TypeId->Option (List (K1 U))
 |0,_=>none
 |d+1,t=>match E.P.underlying t with
  |some (.int k)=>some [.int k]
  |some .bool=>some [.bool]
  |some .string=>some [.str]
  |some (.slice e)=>match E.code e with|some τ=>some [.sl τ]|none=>none
  |some (.struct fs)=>match tkF E (tk d) 0 fs.toList with
   |some ks=>bif Nat.beq (E.P.cellsOf t) ks.length then some ks else none
   |none=>none
  |_=>none
structure Hz(kinds:U.Ty->List (K1 U)):Prop where
 tk:∀e τ,E.code e=some τ->AM.tk E 8 e=some (kinds τ)
 wd:∀e τ,E.code e=some τ->E.P.cellsOf e=U.wd τ
 dec:∀τ cs,KM (kinds τ) cs->∃x,U.dec τ cs=some x
end
theorem Ar{w:World}{b0:Nat}{a:Addr}{n:Nat}{cs:List Value}(h:w.cells? b0 a n=some cs):cs.length=n/\∀i v,cs[i]? =some v->w.cell? (a.add i)=some v:=by
 unfold World.cells? at h
 split at h
 ·have key:∀{m n:Nat}{cs:List Value},(List.range' m n).mapM (fun i=>w.cell? (a.add i))=some cs->cs.length=n/\∀i v,cs[i]? =some v->w.cell? (a.add (m+i))=some v:=by
   intro m n
   induction n generalizing m with
   |zero=>intro cs h;simp at h;subst h;exact⟨rfl,fun i v hv=>by simp at hv⟩
   |succ n ih=>
    intro cs h
    rw[List.range'_succ,List.mapM_cons] at h
    simp only[Option.pure_def,Option.bind_eq_bind,zdy,gA] at h
    obtain⟨u,hu,us,wF,rfl⟩:=h
    obtain⟨h1,h2⟩:=ih wF
    refine⟨by simp[h1],fun i v hv=> ?_⟩
    cases i with
    |zero=>simp only[vn,gA] at hv;subst hv;simpa using hu
    |succ i=>have:=h2 i v (by simpa using hv);simpa[QO,zew 1 i] using this
  rw[List.range_eq_range'] at h
  obtain⟨h1,h2⟩:=key h
  exact⟨h1,fun i v hv=>by simpa using h2 i v hv⟩
 ·cases h
section
variable{E:Env U}{kinds:U.Ty->List (K1 U)}{H:Type}{enc:TypeId×Value->H}{w:World}{sp:Nat->Bool}{held:Bool}
def J3(E:Env U)(w:World)(ks:List (K1 U))(cs:List Value):Prop:=
 ∃cells:List U.C,KM ks cells/\cells.length=cs.length/\∀(i:Nat)(c:U.C)(v:Value),cells[i]? =some c->cs[i]? =some v->Rp E w (·<w.heap.size) false c v []
theorem pM{k:K1 U}{c:U.C}{v:Value}(h1:km k c)(h2:Rp E w (·<w.heap.size) false c v []):J3 E w [k] [v]:=by
 refine⟨[c],⟨h1,trivial⟩,rfl,fun i c' v' hc hv=> ?_⟩
 cases i with
 |zero=>simp only[vn,gA] at hc hv;subst hc hv;exact h2
 |succ i=>simp at hc
theorem LG{α:Type}(z:α){n:Nat}{p:Nat->α->Prop}(h:∀i,i<n->∃x,p i x):∃xs:List α,xs.length=n/\∀i x,xs[i]? =some x->i<n/\p i x:=by
 classical
 refine⟨(List.range n).map fun i=>if hi:i<n then(h i hi).choose else z,by simp,fun i x hx=> ?_⟩
 rw[nT] at hx
 by_cases hi:i<n
 ·simp only[NF hi,FT,gA,dif_pos hi] at hx
  subst hx
  exact⟨hi,(h i hi).choose_spec⟩
 ·rw[od (by simpa using hi)] at hx;cases hx
theorem wH(hE:Hz E kinds){g:TypeId->Option (List (K1 U))}{r:TypeId->List Value->Option (DataW H×List MemPlace)}(hr:∀t cs x ks,r t cs=some x->g t=some ks->J3 E w ks cs){cs:List Value}:
  ∀{fs:List Field}{off:Nat}{ks:List (K1 U)}{xs:List (DataW H×List MemPlace)},tkF E g off fs=some ks->fs.mapM (fun f=>r f.type ((cs.drop f.offset).take (E.P.cellsOf f.type)))=some xs->
   ∃cells:List U.C,KM ks cells/\(off+cells.length<=cs.length\/cells=[])/\∀(i:Nat)(c:U.C)(v:Value),cells[i]? =some c->cs[off+i]? =some v->Rp E w (·<w.heap.size) false c v []
 |[],off,ks,xs,hk,hm=>by
  simp only[tkF,gA] at hk
  subst hk
  exact⟨[],trivial,.inr rfl,fun i c v hc=>by simp at hc⟩
 |f::fs,off,ks,xs,hk,hm=>by
  simp only[tkF] at hk
  split at hk
  ·rename_i ks1 hg
   rw[im] at hk
   split at hk
   ·rename_i hc
    simp only[cJ] at hc
    have ho:=nk hc.1
    have hn:=nk hc.2
    split at hk
    ·rename_i ls hl
     cases hk
     rw[List.mapM_cons] at hm
     simp only[Option.pure_def,Option.bind_eq_bind,zdy,gA] at hm
     obtain⟨y,hy,ys,hys,rfl⟩:=hm
     obtain⟨c1,g1,g2,g3⟩:=hr _ _ _ _ hy hg
     obtain⟨c2,i1,i2,i3⟩:=wH hE hr hl hys
     rw[ho,hn] at g2
     have hlen:=g1.len
     refine⟨c1++c2,g1.append i1,?_,fun i c v ni hv=> ?_⟩
     ·rw[ko]
      rw[oc,Mf] at g2
      rcases i2 with i2|i2
      ·left;omega
      ·subst i2
       cases Gf:c1 with
       |nil=>exact .inr rfl
       |cons _ _=>left;rw[Gf] at g2 hlen;simp only[fK,fv] at*;omega
     ·by_cases hi:i<c1.length
      ·rw[xA hi] at ni
       refine g3 i c v ni ?_
       rw[ho,hn,qn,if_pos (by omega),HB]
       exact hv
      ·rw[zC (by omega)] at ni
       refine i3 (i-c1.length) c v ni ?_
       rw[<-hv];congr 1;omega
    ·cases hk
   ·cases hk
  ·cases hk
theorem Kd(hE:Hz E kinds):∀(n:Nat)(t:TypeId)(cs:List Value)(x:DataW H×List MemPlace)(d:Nat)(ks:List (K1 U)),DataW.trod enc E.P w 0 sp held n t cs=some x->tk E d t=some ks->J3 E w ks cs:=by
 intro n
 induction n with
 |zero=>intro t cs x d ks h;simp[DataW.trod] at h
 |succ n ih=>
  intro t cs x d ks h hk
  cases d with
  |zero=>cases hk
  |succ d=>
   rw[DataW.trod_step] at h
   unfold DataW.trodStep at h
   simp only[tk] at hk
   split at hk
   ·
    rename_i k hu
    cases hk
    rw[hu] at h
    match cs,h with
    |[.int k' m],h=>
     simp only at h
     split at h
     ·rename_i hc
      obtain⟨rfl,hw⟩:=hc
      refine pM (E:=E) (w:=w) (c:=.lit (.int k' m)) ⟨m,rfl⟩ (.lit _ _ ⟨rfl,?_⟩)
      simp only[Lit.wf,cJ,decide_eq_true_eq] at hw
      exact hw
     ·cases h
   ·
    rename_i hu
    cases hk
    rw[hu] at h
    match cs,h with
    |[.bool b],h=>exact pM (E:=E) (w:=w) (c:=.lit (.bool b)) ⟨b,rfl⟩ (.lit _ _ ⟨rfl,trivial⟩)
   ·
    rename_i hu
    cases hk
    rw[hu] at h
    match cs,h with
    |[.string s],h=>
     simp only at h
     split at h
     ·rename_i hc
      refine pM (E:=E) (w:=w) (c:=.lit (.string s)) ⟨s,rfl⟩ (.lit _ _ ⟨rfl,?_⟩)
      unfold maxLen at hc
      exact hc
     ·cases h
   ·
    rename_i e hu
    split at hk
    ·rename_i τ Mi
     cases hk
     rw[hu] at h
     match cs,h with
     |[.slice none 0 0],_=>exact pM (E:=E) (w:=w) (c:=.sl τ []) ⟨[],rfl⟩ (.nil _ _ _ _ (by simp))
     |[.slice (some a) len cap],h=>
      simp only at h
      split at h
      ·rename_i hc
       simp only[zdy,Option.map_eq_some_iff] at h
       obtain⟨ap7,he,_⟩:=h
       have vw:=hE.wd e τ Mi
       have j6:∀i,i<len->∃y:U.T τ,∃row:List Value,w.cells? 0 (a.add (i*U.wd τ)) (U.wd τ)=some row/\∀(j:Nat)(c:U.C)(v:Value),(U.enc τ y)[j]? =some c->row[j]? =some v->Rp E w (·<w.heap.size) false c v []:=by
        intro i hi
        obtain⟨z,hz⟩:=mapM_each he i (pD.2 hi)
        simp only[zdy] at hz
        obtain⟨row,Ga,hr2⟩:=hz
        obtain⟨cells,k1,k2,k3⟩:=ih e row z 8 (kinds τ) hr2 (hE.tk e τ Mi)
        obtain⟨y,hy⟩:=hE.dec τ cells k1
        rw[vw] at Ga
        exact⟨y,row,Ga,by rw[U.mT τ cells y hy];exact k3⟩
       obtain⟨xs,hl,hx⟩:=LG (U.e6 τ) j6
       refine pM (E:=E) (w:=w) (c:=.sl τ xs) ⟨xs,rfl⟩ ?_
       cases len with
       |zero=>
        have:xs=[]:=FL hl
        subst this
        exact .nil _ _ _ _ (by simp)
       |succ len=>
        have h0:∃y:U.T τ,xs[0]? =some y:=⟨xs[0]'(by omega),fw (by omega)⟩
        obtain⟨y0,hy0⟩:=h0
        obtain⟨_,akp,VQ,_⟩:=hx 0 y0 hy0
        obtain⟨M8,hrc⟩:=Ar VQ
        have hwp:=U.la τ
        have hc0:=hrc 0 (akp[0]'(by omega)) (fw (by omega))
        have ad7:=World.cell?_spot hc0
        obtain⟨b,off,spot⟩:=a
        have hs:spot=none:=by simpa[Addr.add] using ad7
        subst hs
        have P8:∀i j:Nat,((⟨b,off,none⟩:Addr).add i).add j=⟨b,off+(i+j),none⟩:=by
         intro i j
         rw[Addr.add_mid,Addr.add_mid,QO]
        have pi:∀i,i<(len+1)*U.wd τ->∃v,w.cell? ⟨b,off+i,none⟩=some v:=by
         intro i hi
         have hq:i/U.wd τ<len+1:=Nat.div_lt_of_lt_mul (by rw[UB];exact hi)
         have wl:xs[i/U.wd τ]? =some (xs[i/U.wd τ]'(by omega)):=fw (by omega)
         obtain⟨_,row,hr,_⟩:=hx _ _ wl
         obtain⟨l1,l2⟩:=Ar hr
         have hm:i%U.wd τ<row.length:=by rw[l1];exact Nat.mod_lt _ hwp
         have:=l2 _ _ (fw hm)
         rw[P8] at this
         rw[Nat.div_add_mod'] at this
         exact⟨_,this⟩
        have hb:b<w.heap.size:=by
         obtain⟨v,hv⟩:=pi 0 (Nat.mul_pos (Nat.succ_pos _) hwp)
         unfold World.cell? at hv
         rcases pe b w.heap.size with g|g
         ·exact g
         ·simp only[Array.getElem?_eq_none g] at hv
          simp at hv
        have:=Rp.shr (E:=E) (w:=w) (F:=(·<w.heap.size)) τ xs b off cap (fun i=>(w.cell? ⟨b,off+i,none⟩).getD undef) hb (by omega) (by unfold maxLen at*;omega) (fun i hi=>by
         obtain⟨v,hv⟩:=pi i (by rw[<-hl];exact hi)
         rw[hv];rfl) (fun i y j c wl hj=>by
         obtain⟨_,row,hr,hrr⟩:=hx i y wl
         obtain⟨l1,l2⟩:=Ar hr
         have hjl:j<row.length:=by
          rw[l1,<-U.dz τ y]
          rcases pe j (U.enc τ y).length with g|g
          ·exact g
          ·rw[od g] at hj;cases hj
         have h1:=l2 j _ (fw hjl)
         rw[P8] at h1
         rw[h1]
         exact hrr j c _ hj (fw hjl))
        rw[hl] at this
        exact this
      ·cases h
    ·cases hk
   ·
    rename_i fs hu
    split at hk
    ·rename_i ks' hkf
     rw[im] at hk
     split at hk
     ·rename_i iv
      cases hk
      have iv:=nk iv
      rw[hu] at h
      simp only at h
      split at h
      ·rename_i hlen
       simp only[Option.map_eq_some_iff] at h
       obtain⟨xs,hx,_⟩:=h
       obtain⟨cells,g1,g2,g3⟩:=wH hE (g:=tk E d) (fun t cs x ks h1 h2=>ih t cs x d ks h1 h2) hkf hx
       exact⟨cells,g1,by rw[g1.len,hlen,iv],fun i c v hc hv=>g3 i c v hc (by simpa using hv)⟩
      ·cases h
     ·cases hk
    ·cases hk
   ·cases hk
theorem Rw(hE:Hz E kinds){t:TypeId}{ks:List (K1 U)}(hk:tk E 8 t=some ks){v:Value}{d:DataW H}{p:List MemPlace}(h:DataW.Trod enc E.P w 0 sp held t v d p):J3 E w ks v.cells.toList:=by
 obtain⟨n,hn⟩:=h
 exact Kd hE n t _ _ 8 ks hn hk
theorem Rv(hE:Hz E kinds){t:TypeId}{k:K1 U}(hk:tk E 8 t=some [k]){v:Value}{d:DataW H}{p:List MemPlace}(h:DataW.Trod enc E.P w 0 sp held t v d p)(hv:v.cells= #[v]):
  ∃c,km k c/\Rp E w (·<w.heap.size) false c v []:=by
 obtain⟨cells,h1,h2,h3⟩:=Rw hE hk h
 rw[hv] at h2 h3
 match cells,h1 with
 |[c],h1=>exact⟨c,h1.1,h3 0 c v rfl rfl⟩
end
section
variable{E:Env U}{kinds:U.Ty->List (K1 U)}{H:Type}{enc:TypeId×Value->H}{w:World}{sp:Nat->Bool}{held:Bool}{r:Reach}{b0:Nat}{t:TypeId}{v:Value}{d:DataW H}{p:List MemPlace}
theorem okWide_slice{P:Program}{e:TypeId}(ht:P.underlying t=some (.slice e))(h:Value.okWide P w r b0 t v):∃a n c,v=.slice a n c:=by
 simp only[Value.okWide,ht,Cell.okWide] at h
 cases v<;>simp_all[Cell.ok]
theorem ack{e:TypeId}{τ:U.Ty}(ht:E.P.underlying t=some (.slice e))(hc:E.code e=some τ):tk E 8 t=some [.sl τ]:=by simp[tk,ht,hc]
theorem abH(hE:Hz E kinds){e:TypeId}{τ:U.Ty}(ht:E.P.underlying t=some (.slice e))(hc:E.code e=some τ)(hv:Value.okWide E.P w r b0 t v)(h:DataW.Trod enc E.P w 0 sp held t v d p):∃xs,oK E w (·<w.heap.size) .ro (.one (.sl τ xs)) v []:=by
 obtain⟨a,n,c,rfl⟩:=okWide_slice ht hv
 obtain⟨c,⟨m,rfl⟩,h2⟩:=Rv hE (ack ht hc) h rfl
 exact⟨m,h2,rfl⟩
end
section
variable{E:Env U}{w w':World}
theorem LV:∀{ms:List Mode},tt ms=true->rc ms=true
 |[],_=>rfl
 |m::ms,h=>by
  simp only[tt,QM,cJ] at h
  cases m with
  |ro=>exact LV (ms:=ms) h.2
  |wr=>simp at h
  |mv=>simp at h
  |box _=>simp at h
theorem Tg(BF:QH E w (·<w.heap.size)){f:FuncId}{k:jY U}(hk:eG E f k){x:k.α}(hp:∀p∈k.pre x,p){vs:List Value}{ls:List (List Nat)}(n9:js E w (·<w.heap.size) k.md (k.ds x) vs ls)(hro:tt k.md=true)
  (PL:k.nY x=⟨[.one (.lit (.bool true))],[],[]⟩):Calls E.P f vs.toArray w fun e w'=>e=.returned (.bool true)/\hU (fun _=>False) w w':=by
 have hls:=NT n9 hro
 refine(hk x hp w _ vs ls (fun _ h=>h) BF n9 (wT (LV hro)) (by rw[hls];exact Ze) (by rw[hls];simp)).mono ?_
 rintro e w' ⟨us,sE,iY,rfl,h1,h2,_⟩
 rw[PL] at h2
 rw[hls] at h1
 cases us with
 |nil=>exact h2.elim
 |cons u us=>cases sE with
  |nil=>exact h2.elim
  |cons l sE=>
   obtain⟨h3,h4⟩:=h2
   have h3:Rp E w' _ true (.lit (.bool true)) u l:=h3
   cases us with
   |nil=>exact⟨by rw[h3.kc.2.1];rfl,h1.mono (by simp)⟩
   |cons _ _=>exact h4.elim
end
section
variable{P:Program}{H:Type}{enc:TypeId×Value->H}
theorem RU{b:TypeId}{f:Func}{s:ChangeSpec}{apart fresh handsOn:Bool}{W W':World}{args:Array Value}{ds gs:List (DataW H)}{before:List MemPlace}
  (hW:DataW.Whole enc P f.params.toList s.vars apart W args.toList ds gs before) (W3:s.vars=[]) (ql:hU (fun _=>False) W W')
  (hl:laidOutB P=true) (hm:mapsRowed P=true) (hz:((List.range P.types.size).all fun t=>match P.underlying t with|some (.slice e)=>decide (0<P.cellsOf e)|_=>true)=true)
  (hps:∀t∈f.params.toList,t<P.types.size) (hrt:f.resultTypes= #[b]) (hb:P.underlying b=some .bool)
  (hfn:s.fn H (ds++gs)={results:=[.lit (.bool true)],args:=ds}):s.post enc P f apart fresh handsOn false W args (.bool true) W':=by
 have gI:=hW.lt
 have hW0:=hW
 obtain⟨p,q,hA,hV,rfl,hfz,qu⟩:=hW
 rw[W3] at hV
 obtain⟨rfl,rfl⟩:=trodVars_none hV
 simp only[xu] at*
 have ad8:∀x∈p,W.sameAt W' x:=by
  intro x hx
  have h1:=gI x hx
  cases x with
  |cell b off=>exact World.cell?_of_block (ql.block b h1 (fun h=>h))
  |map b=>exact ql.block b h1 (fun h=>h)
 have hA':DataW.TrodAll enc P W' 0 (fun _=>true) true f.params.toList args.toList ds p:=by
  have key:∀{ts:List TypeId}{vs:List Value}{ds:List (DataW H)}{p:List MemPlace},DataW.TrodAll enc P W 0 (fun _=>true) true ts vs ds p->(∀x∈p,W.sameAt W' x)->DataW.TrodAll enc P W' 0 (fun _=>true) true ts vs ds p:=by
   intro ts
   induction ts with
   |nil=>intro vs ds p h _;cases vs<;>cases ds<;>exact h
   |cons t ts ih=>
    intro vs ds p h hs
    cases vs with
    |nil=>cases ds<;>exact h
    |cons v vs=>
     cases ds with
     |nil=>exact h
     |cons d ds=>
      obtain⟨p1,q1,⟨n,hn⟩,h2,rfl⟩:=h
      exact⟨p1,q1,⟨n,DataW.trod_carry n _ _ _ hn (fun x hx=>hs x (sD _ hx))⟩,ih h2 (fun x hx=>hs x (rv _ hx)),rfl⟩
  exact key hA ad8
 have lK:∀sp:Nat->Bool,(∀x∈p,sp x.block=true)->DataW.TrodAll enc P W' 0 sp true f.params.toList args.toList (s.fn H ds).args p:=by
  intro sp W5
  rw[hfn]
  exact DataW.TrodAll.respare (kids_rows hl hm) (fun t e ht he=>slices_full_of P hz t e ht he) hps hA' W5
 have PL:∀(b':Nat)(sp:Nat->Bool)(hd:Bool),DataW.TrodAll enc P W' b' sp hd f.resultTypes.toList ((Value.bool true).resultList f.resultTypes.size) (s.fn H ds).results []:=by
  intro b' sp hd
  rw[hfn,hrt]
  exact trodAll_mk1 ⟨1,by simp[DataW.trod,Value.cells,hb]⟩
 refine⟨ds,_,p,[],p,[],hW0,by simpa using PL _ _ _,by simpa using lK _ (fun x hx=>by simpa using gI x hx),by rw[W3,xu,hfn];rfl,⟨ql.os,ql.output,fun i hi=> ?_⟩,fun h=>by cases h⟩
 rw[ql.block i hi (fun h=>h)]
 cases W.heap[i]? with
 |none=>rfl
 |some o=>cases o<;>first|exact⟨rfl,rfl,rfl,fun _ _=>rfl⟩|exact .inr ⟨rfl,rfl⟩|rfl
end
end AM
