import Derived.Test.YtknfcngfhlpaeaaGreatDoorQAmCall3
namespace AM
set_option linter.unusedVariables false
open Go
variable{U:kz}{E:Env U}{pm:Pm}
variable{F F':Nat->Prop}{kv:Key->Value}{fp:Key->List Nat}{σ:ak U}{a:Act}{w w':World}{bad:Key->Bool}
theorem abc{ks:List Key}{x:AC U}(hc:Dq (restrict σ.bH ks) σ.aR x=true):hJ (bR σ) x=false:=by
 have key:∀k p,fm (restrict σ.bH ks) σ.aR k p=true->(!p.isEmpty&&bR σ k)=false:=by
  intro k p hc
  cases p with
  |nil=>rfl
  |cons s p=>
   unfold fm at hc
   simp only[List.isEmpty_cons,Fw,cH] at hc
   obtain⟨e,he⟩:=l6.1 hc.1
   exact FM (ks:=ks) (p:=s::p) (by unfold fm;simp[hc.1,hc.2]) he
 cases x with
 |ref k p=>exact key k p hc
 |kI k p i wd off=>exact key k p hc
 |_=>rfl
theorem ajC(h:cG E pm F kv fp σ a w){o:Oper}{d:Nat}(ho:o.dst=some d)(hd:d<σ.n){t:TypeId}{q:Operand}(qB:o.op=.box t q){x:AV U}(hx:RV E w F kv fp (bR σ) x (a.eval q))
  (tW:∀y∈x.cs,∀k∈y.keys,Names σ k) {ks:List Key} (gB:tx (restrict σ.bH ks) σ.aR x.cs=true) (nu:¬Names σ (d,0)) {next:Act->World->Prop} {Q:Exit->Act->World->Prop}
  (hn:∀F kv fp a' w',cG E pm F kv fp (AM.apply o ⟨some (one (.jU (d,0) 0)),[(0,.box x.cs)],[],[],[]⟩ σ) a' w'->next a' w'):o.wp E.P a w next Q:=by
 obtain⟨vs,DZ,hv⟩:=hx
 have rr:(a.eval q).cells=vs.toArray:=by
  cases Q2:x.agg<;>rw[Q2] at hv<;>simp only[wb,if_false,if_true] at hv
  ·subst hv
   have h1:(a.eval q).oneCell'=true:=by
    have hl:=DZ.1
    simp only[ir,ig] at hl
    obtain⟨y,hy⟩:=List.length_eq_one_iff.1 hl
    exact(DZ.2 0 y _ (by rw[hy];rfl) rfl).1.1
   cases he:a.eval q<;>first|rfl|(rw[he] at h1;simp[Value.oneCell'] at h1)
  ·rw[hv];rfl
 have iM:(execOp a.eval o).run E.P w=.ok (.value (.pointer (some ⟨w.heap.size,0,none⟩))) (w.alloc (.cells vs.toArray t)):=by
  unfold execOp;simp only[qB]
  refine gY ?_
  simp[Instr.box,newVar,newRow,rr]
 have Ym:∀bad,kU E (w.alloc (.cells vs.toArray t)) F (c_ kv (d,0) (.pointer (some ⟨w.heap.size,0,none⟩))) (c_ fp (d,0) [w.heap.size]) bad x.cs vs:=by
  intro bad
  refine⟨DZ.1,fun i y v hy hv=> ?_⟩
  have hym:=Em hy
  have h1:=DZ.2 i y v hy hv
  have hb:=abc (sh.1 gB y hym)
  have h3:=RA.move (bad:=bR σ) (w':=w.alloc (.cells vs.toArray t)) (F':=F) (kv':=c_ kv (d,0) (.pointer (some ⟨w.heap.size,0,none⟩))) (fp':=c_ fp (d,0) [w.heap.size]) (bad':=bR σ) (ca h1 hb) (fun k hk=> ?_) (fun b hb=>⟨hb,zS w _ (h.sO b hb)⟩)
  ·rcases h3 with h3|h3
   ·rw[hb] at h3;cases h3
   ·exact⟨h1.1,.inr h3⟩
  ·have d_:k≠(d,0):=fun e=>nu (e▸tW y hym k hk)
   refine⟨zR d_,?_⟩
   cases ic:bR σ k with
   |true=>exact .inl rfl
   |false=>
    refine .inr ⟨rfl,zR d_,fun b bg=> ?_⟩
    unfold bR at ic
    simp only[Nl] at ic
    cases he:σ.bH k with
    |none=>rw[he] at ic;simp at ic
    |some e=>exact zS w _ (FL h he bg)
 refine qZ iM (hn F (c_ kv (d,0) (.pointer (some ⟨w.heap.size,0,none⟩))) (c_ fp (d,0) [w.heap.size]) _ _ (h.Dy (w':=w.alloc (.cells vs.toArray t)) ho hd _ _ [] _ (.pointer (some ⟨w.heap.size,0,none⟩)) _ _ nu ?_ ?_ ?_ ?_ ?_ ?_ ?_ ?_))
 ·intro bad
  exact gP ⟨⟨rfl,trivial⟩,.inr ⟨w.heap.size,sE,rfl⟩⟩
 ·intro bad
  exact⟨w.heap.size,vs.toArray,t,rfl,heap_alloc_new w _,rfl,by simpa using Ym bad⟩
 ·intro b hb;exact⟨hb,zS w _ (h.sO b hb)⟩
 ·intro b hb;exact .inl hb
 ·intro k e _ he b hb;exact zS w _ (FL h he hb)
 ·simp
 ·intro b hb
  rw[mb.1 hb]
  exact⟨fun hF=>by have:=h.sO _ hF;omega,.inr ⟨sB _,by simp⟩⟩
 ·exact gq.alloc _ _ _
theorem WK{o:Oper}{q:Operand}{sx:SV U}{ad:Addr}(ho:o.op=.nilCheck q)(hx:RS E w F kv fp bad sx (a.eval q))(hp:a.eval q=.pointer (some ad)):cy E F kv fp bad a w o sx:=
 ⟨a.eval q,by unfold execOp;simp only[ho,hp];rfl,hx⟩
theorem aiB{o:Oper}{s d:TypeId}{q:Operand}{sx:SV U}{k k0 k':IntKind}{n:Int}(ho:o.op=.convert s d q)(hx:RS E w F kv fp bad sx (a.eval q))(hl:ix sx=some (.int k' n))
  (hd:E.P.underlying d=some (.int k)) (hs:E.P.underlying s=some (.int k0)):cy E F kv fp bad a w o (uQ (.int k (k.wrap n))):=by
 refine⟨.int k (k.wrap n),?_,l4 ⟨rfl,wrap_within _ _⟩⟩
 unfold execOp;simp only[ho,o6 hx hl]
 refine gY ?_
 simp[convert,run_underlying hs,run_underlying hd,Conv.intToInt]
theorem aiK{P:Program}{w:World}(ad:Addr):(loadCells ad 0).run P w=.ok #[] w:=by
 have:=run_loadCells_list (P:=P) w ad [] (fun j v hj=>by simp at hj)
 simpa using this
theorem aba{P:Program}{w:World}{s d e:TypeId}(hs:P.underlying s=some (.slice e))(he:P.underlying e=some (.int .u8))(hd:P.underlying d=some .string)(ad:Option Addr)(c:Nat):
  (convert s d (.slice ad 0 c)).run P w=.ok (.string ByteArray.empty) w:=by
 cases ad with
 |none=>exact run_convert_bytes_nil w s e hs he 0 c d hd
 |some ad=>
  rw[run_convert_bytes_string w s d e _ 0 c hs he hd,run_bytesToString w ad 0 c [] (aiK ad)]
  rfl
theorem aiC{o:Oper}{s d e:TypeId}{q:Operand}{xs:List (U.T U.nR)}(ho:o.op=.convert s d q)(hx:Rp E w F false (.sl U.nR xs) (a.eval q) [])
  (hs:E.P.underlying s=some (.slice e)) (he:E.P.underlying e=some (.int .u8)) (hd:E.P.underlying d=some .string) {kv:Key->Value} {fp:Key->List Nat} {F':Nat->Prop}:cy E F' kv fp bad a w o (uQ (.string (strOfNums (xs.map U.Tx)))):=by
 refine⟨.string (strOfNums (xs.map U.Tx)),?_,l4 (v:=.string _) ⟨rfl,by simp only[strOfNums_size,uW];exact hx.len⟩⟩
 unfold execOp;simp only[ho]
 refine gY ?_
 rcases hx.inv with⟨h0,ad,c,hv⟩|⟨b,off,cap,vs,hv,_,yJ,hc,hr⟩
 ·rw[hv,h0,aba hs he hd]
  rfl
 ·rw[hv]
  have hw:U.wd U.nR=1:=by
   cases xs with
   |nil=>rw[<-U.cY U.nR (U.ee U.nR),U.E_];rfl
   |cons x xs=>rw[<-U.cY U.nR x,U.E_];rfl
  refine run_convert_bytes_arg w s e hs he b off xs.length cap (xs.map U.Tx) (by simp) (fun i hi=> ?_) d hd
  rw[hc i (by rw[hw];omega)]
  have uR:=eW hi
  have jz:=hr i xs[i] 0 (.lit (.int .u8 (U.Tx xs[i]))) uR (by rw[U.E_];rfl)
  rw[hw,Nat.mul_one,HD] at jz
  obtain⟨_,hvi,_⟩:=jz.jI
  rw[hvi]
  simp[hi]
end AM
