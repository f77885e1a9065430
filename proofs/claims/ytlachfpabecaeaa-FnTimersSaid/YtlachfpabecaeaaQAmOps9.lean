/- THE ABSTRACT MACHINE: a parameter as a variable, checks of pointers, conversions. -/
import Derived.Test.YtlachfpabecaeaaQAmCall3
namespace AM
set_option linter.unusedVariables false
open Go
variable{U:dw}{E:Env U}{pm:Pm}
variable{F F':Nat->Prop}{kv:Key->Value}{fp:Key->List Nat}{σ:aa U}{a:Act}{w w':World}{bad:Key->Bool}
theorem Ea{ks:List Key}{x:AC U}(hc:ns (restrict σ.aw ks) σ.ah x=true):cd (ay σ) x=false:=by
 have key:∀k p,bw (restrict σ.aw ks) σ.ah k p=true->(!p.isEmpty&&ay σ k)=false:=by
  intro k p hc
  cases p with
  |nil=>rfl
  |cons s p=>
   unfold bw at hc
   simp only[List.isEmpty_cons,sA,c9] at hc
   obtain⟨e,he⟩:=eD.1 hc.1
   exact oW (ks:=ks) (p:=s::p) (by unfold bw;simp[hc.1,hc.2]) he
 cases x with
 |ref k p=>exact key k p hc
 |dG k p i wd off=>exact key k p hc
 |_=>rfl
theorem JY(h:aE E pm F kv fp σ a w){o:Oper}{d:Nat}(ho:o.dst=some d)(hd:d<σ.n){t:TypeId}{q:Operand}(gy:o.op=.box t q){x:AV U}(hx:RV E w F kv fp (ay σ) x (a.eval q))
  (gR:∀y∈x.cs,∀k∈y.keys,Names σ k) {ks:List Key} (ck:iU (restrict σ.aw ks) σ.ah x.cs=true) (fj:¬Names σ (d,0)) {next:Act->World->Prop} {Q:Exit->Act->World->Prop}
  (hn:∀F kv fp a' w',aE E pm F kv fp (AM.apply o ⟨some (one (.dh (d,0) 0)),[(0,.box x.cs)],[],[],[]⟩ σ) a' w'->next a' w'):o.wp E.P a w next Q:=by
 obtain⟨vs,rE,hv⟩:=hx
 have jT:(a.eval q).cells=vs.toArray:=by
  cases wK:x.agg<;>rw[wK] at hv<;>simp only[mF,if_false,if_true] at hv
  ·subst hv
   have h1:(a.eval q).oneCell'=true:=by
    have hl:=rE.1
    simp only[kQ,j9] at hl
    obtain⟨y,hy⟩:=List.length_eq_one_iff.1 hl
    exact(rE.2 0 y _ (by rw[hy];rfl) rfl).1.1
   cases he:a.eval q<;>first|rfl|(rw[he] at h1;simp[Value.oneCell'] at h1)
  ·rw[hv];rfl
 have cx:(execOp a.eval o).run E.P w=.ok (.value (.pointer (some ⟨w.heap.size,0,none⟩))) (w.alloc (.cells vs.toArray t)):=by
  unfold execOp;simp only[gy]
  refine b8 ?_
  simp[Instr.box,newVar,newRow,jT]
 have Bu:∀bad,dQ E (w.alloc (.cells vs.toArray t)) F (aL kv (d,0) (.pointer (some ⟨w.heap.size,0,none⟩))) (aL fp (d,0) [w.heap.size]) bad x.cs vs:=by
  intro bad
  refine⟨rE.1,fun i y v hy hv=> ?_⟩
  have Ng:=n6 hy
  have h1:=rE.2 i y v hy hv
  have hb:=Ea (qc.1 ck y Ng)
  have h3:=RA.move (bad:=ay σ) (w':=w.alloc (.cells vs.toArray t)) (F':=F) (kv':=aL kv (d,0) (.pointer (some ⟨w.heap.size,0,none⟩))) (fp':=aL fp (d,0) [w.heap.size]) (bad':=ay σ) (aA h1 hb) (fun k hk=> ?_) (fun b hb=>⟨hb,l8 w _ (h.iz b hb)⟩)
  ·rcases h3 with h3|h3
   ·rw[hb] at h3;cases h3
   ·exact⟨h1.1,.inr h3⟩
  ·have aX:k≠(d,0):=fun e=>fj (e▸gR y Ng k hk)
   refine⟨l7 aX,?_⟩
   cases cn:ay σ k with
   |true=>exact .inl rfl
   |false=>
    refine .inr ⟨rfl,l7 aX,fun b ap=> ?_⟩
    unfold ay at cn
    simp only[wD] at cn
    cases he:σ.aw k with
    |none=>rw[he] at cn;simp at cn
    |some e=>exact l8 w _ (oV h he ap)
 refine gW cx (hn F (aL kv (d,0) (.pointer (some ⟨w.heap.size,0,none⟩))) (aL fp (d,0) [w.heap.size]) _ _ (h.nv (w':=w.alloc (.cells vs.toArray t)) ho hd _ _ [] _ (.pointer (some ⟨w.heap.size,0,none⟩)) _ _ fj ?_ ?_ ?_ ?_ ?_ ?_ ?_ ?_))
 ·intro bad
  exact bY ⟨⟨rfl,trivial⟩,.inr ⟨w.heap.size,im,rfl⟩⟩
 ·intro bad
  exact⟨w.heap.size,vs.toArray,t,rfl,heap_alloc_new w _,rfl,by simpa using Bu bad⟩
 ·intro b hb;exact⟨hb,l8 w _ (h.iz b hb)⟩
 ·intro b hb;exact .inl hb
 ·intro k e _ he b hb;exact l8 w _ (oV h he hb)
 ·simp
 ·intro b hb
  rw[gn.1 hb]
  exact⟨fun hF=>by have:=h.iz _ hF;omega,.inr ⟨nC _,by simp⟩⟩
 ·exact bB.alloc _ _ _
theorem zW{o:Oper}{q:Operand}{sx:SV U}{ad:Addr}(ho:o.op=.nilCheck q)(hx:RS E w F kv fp bad sx (a.eval q))(hp:a.eval q=.pointer (some ad)):aB E F kv fp bad a w o sx:=
 ⟨a.eval q,by unfold execOp;simp only[ho,hp];rfl,hx⟩
theorem IX{o:Oper}{s d:TypeId}{q:Operand}{sx:SV U}{k k0 k':IntKind}{n:Int}(ho:o.op=.convert s d q)(hx:RS E w F kv fp bad sx (a.eval q))(hl:cq sx=some (.int k' n))
  (hd:E.P.underlying d=some (.int k)) (hs:E.P.underlying s=some (.int k0)):aB E F kv fp bad a w o (js (.int k (k.wrap n))):=by
 refine⟨.int k (k.wrap n),?_,ez ⟨rfl,wrap_within _ _⟩⟩
 unfold execOp;simp only[ho,fR hx hl]
 refine b8 ?_
 simp[convert,run_underlying hs,run_underlying hd,Conv.intToInt]
theorem I6{P:Program}{w:World}(ad:Addr):(loadCells ad 0).run P w=.ok #[] w:=by
 have:=run_loadCells_list (P:=P) w ad [] (fun j v hj=>by simp at hj)
 simpa using this
theorem D9{P:Program}{w:World}{s d e:TypeId}(hs:P.underlying s=some (.slice e))(he:P.underlying e=some (.int .u8))(hd:P.underlying d=some .string)(ad:Option Addr)(c:Nat):
  (convert s d (.slice ad 0 c)).run P w=.ok (.string ByteArray.empty) w:=by
 cases ad with
 |none=>exact run_convert_bytes_nil w s e hs he 0 c d hd
 |some ad=>
  rw[run_convert_bytes_string w s d e _ 0 c hs he hd,run_bytesToString w ad 0 c [] (I6 ad)]
  rfl
theorem IY{o:Oper}{s d e:TypeId}{q:Operand}{xs:List (U.T U.fo)}(ho:o.op=.convert s d q)(hx:Rp E w F false (.sl U.fo xs) (a.eval q) [])
  (hs:E.P.underlying s=some (.slice e)) (he:E.P.underlying e=some (.int .u8)) (hd:E.P.underlying d=some .string) {kv:Key->Value} {fp:Key->List Nat} {F':Nat->Prop}:aB E F' kv fp bad a w o (js (.string (strOfNums (xs.map U.yE)))):=by
 refine⟨.string (strOfNums (xs.map U.yE)),?_,ez (v:=.string _) ⟨rfl,by simp only[strOfNums_size,uF];exact hx.len⟩⟩
 unfold execOp;simp only[ho]
 refine b8 ?_
 rcases hx.inv with⟨h0,ad,c,hv⟩|⟨b,off,cap,vs,hv,_,kx,hc,hr⟩
 ·rw[hv,h0,D9 hs he hd]
  rfl
 ·rw[hv]
  have hw:U.wd U.fo=1:=by
   cases xs with
   |nil=>rw[<-U.aK U.fo (U.bj U.fo),U.ov];rfl
   |cons x xs=>rw[<-U.aK U.fo x,U.ov];rfl
  refine run_convert_bytes_arg w s e hs he b off xs.length cap (xs.map U.yE) (by simp) (fun i hi=> ?_) d hd
  rw[hc i (by rw[hw];omega)]
  have jt:=cF hi
  have cR:=hr i xs[i] 0 (.lit (.int .u8 (U.yE xs[i]))) jt (by rw[U.ov];rfl)
  rw[hw,Nat.mul_one,qh] at cR
  obtain⟨_,GP,_⟩:=cR.dK
  rw[GP]
  simp[hi]
end AM
