import Derived.Test.YtmcepppejchhkaaGreatDoorQAmCall3
namespace AM
set_option linter.unusedVariables false
open Go
variable{U:lQ}{E:Env U}{pm:Pm}
variable{F F':Nat->Prop}{kv:Key->Value}{fp:Key->List Nat}{σ:ak U}{a:Act}{w w':World}{bad:Key->Bool}
theorem adZ{ks:List Key}{x:AC U}(hc:FB (restrict σ.bP ks) σ.aS x=true):iT (bY σ) x=false:=by
 have key:∀k p,fU (restrict σ.bP ks) σ.aS k p=true->(!p.isEmpty&&bY σ k)=false:=by
  intro k p hc
  cases p with
  |nil=>rfl
  |cons s p=>
   unfold fU at hc
   simp only[List.isEmpty_cons,GJ,cN] at hc
   obtain⟨e,he⟩:=nA.1 hc.1
   exact H5 (ks:=ks) (p:=s::p) (by unfold fU;simp[hc.1,hc.2]) he
 cases x with
 |ref k p=>exact key k p hc
 |l7 k p i wd off=>exact key k p hc
 |_=>rfl
theorem am7(h:cR E pm F kv fp σ a w){o:Oper}{d:Nat}(ho:o.dst=some d)(hd:d<σ.n){t:TypeId}{q:Operand}(sR:o.op=.box t q){x:AV U}(hx:RV E w F kv fp (bY σ) x (a.eval q))
  (vS:∀y∈x.cs,∀k∈y.keys,Names σ k) {ks:List Key} (ix:vo (restrict σ.bP ks) σ.aS x.cs=true) (oG:¬Names σ (d,0)) {next:Act->World->Prop} {Q:Exit->Act->World->Prop}
  (hn:∀F kv fp a' w',cR E pm F kv fp (AM.apply o ⟨some (one (.kQ (d,0) 0)),[(0,.box x.cs)],[],[],[]⟩ σ) a' w'->next a' w'):o.wp E.P a w next Q:=by
 obtain⟨vs,Gf,hv⟩:=hx
 have tA:(a.eval q).cells=vs.toArray:=by
  cases UG:x.agg<;>rw[UG] at hv<;>simp only[xS,if_false,if_true] at hv
  ·subst hv
   have h1:(a.eval q).oneCell'=true:=by
    have hl:=Gf.1
    simp only[fP,fz] at hl
    obtain⟨y,hy⟩:=List.length_eq_one_iff.1 hl
    exact(Gf.2 0 y _ (by rw[hy];rfl) rfl).1.1
   cases he:a.eval q<;>first|rfl|(rw[he] at h1;simp[Value.oneCell'] at h1)
  ·rw[hv];rfl
 have jz:(execOp a.eval o).run E.P w=.ok (.value (.pointer (some ⟨w.heap.size,0,none⟩))) (w.alloc (.cells vs.toArray t)):=by
  unfold execOp;simp only[sR]
  refine iM ?_
  simp[Instr.box,newVar,newRow,tA]
 have abC:∀bad,mw E (w.alloc (.cells vs.toArray t)) F (dJ kv (d,0) (.pointer (some ⟨w.heap.size,0,none⟩))) (dJ fp (d,0) [w.heap.size]) bad x.cs vs:=by
  intro bad
  refine⟨Gf.1,fun i y v hy hv=> ?_⟩
  have hym:=GK hy
  have h1:=Gf.2 i y v hy hv
  have hb:=adZ (sP.1 ix y hym)
  have h3:=RA.move (bad:=bY σ) (w':=w.alloc (.cells vs.toArray t)) (F':=F) (kv':=dJ kv (d,0) (.pointer (some ⟨w.heap.size,0,none⟩))) (fp':=dJ fp (d,0) [w.heap.size]) (bad':=bY σ) (cx h1 hb) (fun k hk=> ?_) (fun b hb=>⟨hb,BW w _ (h.uI b hb)⟩)
  ·rcases h3 with h3|h3
   ·rw[hb] at h3;cases h3
   ·exact⟨h1.1,.inr h3⟩
  ·have fc:k≠(d,0):=fun e=>oG (e▸vS y hym k hk)
   refine⟨BV fc,?_⟩
   cases iW:bY σ k with
   |true=>exact .inl rfl
   |false=>
    refine .inr ⟨rfl,BV fc,fun b bj=> ?_⟩
    unfold bY at iW
    simp only[QK] at iW
    cases he:σ.bP k with
    |none=>rw[he] at iW;simp at iW
    |some e=>exact BW w _ (H4 h he bj)
 refine te jz (hn F (dJ kv (d,0) (.pointer (some ⟨w.heap.size,0,none⟩))) (dJ fp (d,0) [w.heap.size]) _ _ (h.FO (w':=w.alloc (.cells vs.toArray t)) ho hd _ _ [] _ (.pointer (some ⟨w.heap.size,0,none⟩)) _ _ oG ?_ ?_ ?_ ?_ ?_ ?_ ?_ ?_))
 ·intro bad
  exact iD ⟨⟨rfl,trivial⟩,.inr ⟨w.heap.size,uw,rfl⟩⟩
 ·intro bad
  exact⟨w.heap.size,vs.toArray,t,rfl,heap_alloc_new w _,rfl,by simpa using abC bad⟩
 ·intro b hb;exact⟨hb,BW w _ (h.uI b hb)⟩
 ·intro b hb;exact .inl hb
 ·intro k e _ he b hb;exact BW w _ (H4 h he hb)
 ·simp
 ·intro b hb
  rw[mW.1 hb]
  exact⟨fun hF=>by have:=h.uI _ hF;omega,.inr ⟨uh _,by simp⟩⟩
 ·exact ic.alloc _ _ _
theorem aan{o:Oper}{q:Operand}{sx:SV U}{ad:Addr}(ho:o.op=.nilCheck q)(hx:RS E w F kv fp bad sx (a.eval q))(hp:a.eval q=.pointer (some ad)):cI E F kv fp bad a w o sx:=
 ⟨a.eval q,by unfold execOp;simp only[ho,hp];rfl,hx⟩
theorem al6{o:Oper}{s d:TypeId}{q:Operand}{sx:SV U}{k k0 k':IntKind}{n:Int}(ho:o.op=.convert s d q)(hx:RS E w F kv fp bad sx (a.eval q))(hl:ji sx=some (.int k' n))
  (hd:E.P.underlying d=some (.int k)) (hs:E.P.underlying s=some (.int k0)):cI E F kv fp bad a w o (wL (.int k (k.wrap n))):=by
 refine⟨.int k (k.wrap n),?_,ny ⟨rfl,wrap_within _ _⟩⟩
 unfold execOp;simp only[ho,qB hx hl]
 refine iM ?_
 simp[convert,run_underlying hs,run_underlying hd,Conv.intToInt]
theorem amd{P:Program}{w:World}(ad:Addr):(loadCells ad 0).run P w=.ok #[] w:=by
 have:=run_loadCells_list (P:=P) w ad [] (fun j v hj=>by simp at hj)
 simpa using this
theorem adX{P:Program}{w:World}{s d e:TypeId}(hs:P.underlying s=some (.slice e))(he:P.underlying e=some (.int .u8))(hd:P.underlying d=some .string)(ad:Option Addr)(c:Nat):
  (convert s d (.slice ad 0 c)).run P w=.ok (.string ByteArray.empty) w:=by
 cases ad with
 |none=>exact run_convert_bytes_nil w s e hs he 0 c d hd
 |some ad=>
  rw[run_convert_bytes_string w s d e _ 0 c hs he hd,run_bytesToString w ad 0 c [] (amd ad)]
  rfl
theorem al7{o:Oper}{s d e:TypeId}{q:Operand}{xs:List (U.T U.pB)}(ho:o.op=.convert s d q)(hx:Rp E w F false (.sl U.pB xs) (a.eval q) [])
  (hs:E.P.underlying s=some (.slice e)) (he:E.P.underlying e=some (.int .u8)) (hd:E.P.underlying d=some .string) {kv:Key->Value} {fp:Key->List Nat} {F':Nat->Prop}:cI E F' kv fp bad a w o (wL (.string (strOfNums (xs.map U.Xe)))):=by
 refine⟨.string (strOfNums (xs.map U.Xe)),?_,ny (v:=.string _) ⟨rfl,by simp only[strOfNums_size,wP];exact hx.len⟩⟩
 unfold execOp;simp only[ho]
 refine iM ?_
 rcases hx.inv with⟨h0,ad,c,hv⟩|⟨b,off,cap,vs,hv,_,AE,hc,hr⟩
 ·rw[hv,h0,adX hs he hd]
  rfl
 ·rw[hv]
  have hw:U.wd U.pB=1:=by
   cases xs with
   |nil=>rw[<-U.dG U.pB (U.ff U.pB),U.Hu];rfl
   |cons x xs=>rw[<-U.dG U.pB x,U.Hu];rfl
  refine run_convert_bytes_arg w s e hs he b off xs.length cap (xs.map U.Xe) (by simp) (fun i hi=> ?_) d hd
  rw[hc i (by rw[hw];omega)]
  have wM:=fE hi
  have kj:=hr i xs[i] 0 (.lit (.int .u8 (U.Xe xs[i]))) wM (by rw[U.Hu];rfl)
  rw[hw,Nat.mul_one,Kj] at kj
  obtain⟨_,hvi,_⟩:=kj.kt
  rw[hvi]
  simp[hi]
end AM
