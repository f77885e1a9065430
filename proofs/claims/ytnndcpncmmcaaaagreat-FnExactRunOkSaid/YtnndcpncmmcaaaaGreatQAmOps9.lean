import Derived.Test.YtnndcpncmmcaaaaGreatQAmCall3
namespace AM
set_option linter.unusedVariables false
open Go
variable{U:jO}{E:Env U}{pm:Pm}
variable{F F':Nat->Prop}{kv:Key->Value}{fp:Key->List Nat}{σ:ah U}{a:Act}{w w':World}{bad:Key->Bool}
theorem ad4{ks:List Key}{x:AC U}(hc:DT (restrict σ.aU ks) σ.ay x=true):gg (aZ σ) x=false:=by
 have key:∀k p,eg (restrict σ.aU ks) σ.ay k p=true->(!p.isEmpty&&aZ σ k)=false:=by
  intro k p hc
  cases p with
  |nil=>rfl
  |cons s p=>
   unfold eg at hc
   simp only[List.isEmpty_cons,JY,fY] at hc
   obtain⟨e,he⟩:=kH.1 hc.1
   exact y4 (ks:=ks) (p:=s::p) (by unfold eg;simp[hc.1,hc.2]) he
 cases x with
 |ref k p=>exact key k p hc
 |iC k p i wd off=>exact key k p hc
 |_=>rfl
theorem aoN(h:cd E pm F kv fp σ a w){o:Oper}{d:Nat}(ho:o.dst=some d)(hd:d<σ.n){t:TypeId}{q:Operand}(mI:o.op=.box t q){x:AV U}(hx:RV E w F kv fp (aZ σ) x (a.eval q))
  (ol:∀y∈x.cs,∀k∈y.keys,Names σ k) {ks:List Key} (fa:tK (restrict σ.aU ks) σ.ay x.cs=true) (jq:¬Names σ (d,0)) {next:Act->World->Prop} {Q:Exit->Act->World->Prop}
  (hn:∀F kv fp a' w',cd E pm F kv fp (AM.apply o ⟨some (one (.ji (d,0) 0)),[(0,.box x.cs)],[],[],[],[]⟩ σ) a' w'->next a' w'):o.wp E.P a w next Q:=by
 obtain⟨vs,HX,hv⟩:=hx
 have rG:(a.eval q).cells=vs.toArray:=by
  cases J7:x.agg<;>rw[J7] at hv<;>simp only[yN,if_false,if_true] at hv
  ·subst hv
   have h1:(a.eval q).oneCell'=true:=by
    have hl:=HX.1
    simp only[iD,ii] at hl
    obtain⟨y,hy⟩:=List.length_eq_one_iff.1 hl
    exact(HX.2 0 y _ (by rw[hy];rfl) rfl).1.1
   cases he:a.eval q<;>first|rfl|(rw[he] at h1;simp[Value.oneCell'] at h1)
  ·rw[hv];rfl
 have fw:(execOp a.eval o).run E.P w=.ok (.value (.pointer (some ⟨w.heap.size,0,none⟩))) (w.alloc (.cells vs.toArray t)):=by
  unfold execOp;simp only[mI]
  refine gF ?_
  simp[Instr.box,newVar,newRow,rG]
 have aa6:∀bad,kS E (w.alloc (.cells vs.toArray t)) F (bx kv (d,0) (.pointer (some ⟨w.heap.size,0,none⟩))) (bx fp (d,0) [w.heap.size]) bad x.cs vs:=by
  intro bad
  refine⟨HX.1,fun i y v hy hv=> ?_⟩
  have hym:=Ep hy
  have h1:=HX.2 i y v hy hv
  have hb:=ad4 (FU.1 fa y hym)
  have h3:=RA.move (bad:=aZ σ) (w':=w.alloc (.cells vs.toArray t)) (F':=F) (kv':=bx kv (d,0) (.pointer (some ⟨w.heap.size,0,none⟩))) (fp':=bx fp (d,0) [w.heap.size]) (bad':=aZ σ) (bG h1 hb) (fun k hk=> ?_) (fun b hb=>⟨hb,yW w _ (h.lT b hb)⟩)
  ·rcases h3 with h3|h3
   ·rw[hb] at h3;cases h3
   ·exact⟨h1.1,.inr h3⟩
  ·have cO:k≠(d,0):=fun e=>jq (e▸ol y hym k hk)
   refine⟨kf cO,?_⟩
   cases gX:aZ σ k with
   |true=>exact .inl rfl
   |false=>
    refine .inr ⟨rfl,kf cO,fun b aI=> ?_⟩
    unfold aZ at gX
    simp only[Ox] at gX
    cases he:σ.aU k with
    |none=>rw[he] at gX;simp at gX
    |some e=>exact .of (yW w _ (vx h he aI))
 refine pC fw (hn F (bx kv (d,0) (.pointer (some ⟨w.heap.size,0,none⟩))) (bx fp (d,0) [w.heap.size]) _ _ (h.zx (w':=w.alloc (.cells vs.toArray t)) ho hd _ _ [] _ (.pointer (some ⟨w.heap.size,0,none⟩)) _ _ jq ?_ ?_ ?_ ?_ ?_ ?_ ?_ ?_))
 ·intro bad
  exact fT ⟨⟨rfl,trivial⟩,.inr ⟨w.heap.size,gW,rfl⟩⟩
 ·intro bad
  exact⟨w.heap.size,vs.toArray,t,rfl,heap_alloc_new w _,rfl,by simpa using aa6 bad⟩
 ·intro b hb;exact⟨hb,yW w _ (h.lT b hb)⟩
 ·intro b hb;exact .inl hb
 ·intro k e _ he b hb;exact yW w _ (vx h he hb)
 ·simp
 ·intro b hb
  rw[g_.1 hb]
  exact⟨fun hF=>by have:=h.lT _ hF;omega,.inr ⟨og _,by simp⟩⟩
 ·exact fm.alloc _ _ _
theorem ZQ{o:Oper}{q:Operand}{sx:SV U}{ad:Addr}(ho:o.op=.nilCheck q)(hx:RS E w F kv fp bad sx (a.eval q))(hp:a.eval q=.pointer (some ad)):cA E F kv fp bad a w o sx:=
 ⟨a.eval q,by unfold execOp;simp only[ho,hp];rfl,hx⟩
theorem anB{o:Oper}{s d:TypeId}{q:Operand}{sx:SV U}{k k0 k':IntKind}{n:Int}(ho:o.op=.convert s d q)(hx:RS E w F kv fp bad sx (a.eval q))(hl:ie sx=some (.int k' n))
  (hd:E.P.underlying d=some (.int k)) (hs:E.P.underlying s=some (.int k0)):cA E F kv fp bad a w o (uX (.int k (k.wrap n))):=by
 refine⟨.int k (k.wrap n),?_,mB ⟨rfl,wrap_within _ _⟩⟩
 unfold execOp;simp only[ho,pD hx hl]
 refine gF ?_
 simp[convert,run_underlying hs,run_underlying hd,Conv.intToInt]
theorem anO{P:Program}{w:World}(ad:Addr):(loadCells ad 0).run P w=.ok #[] w:=by
 have:=run_loadCells_list (P:=P) w ad [] (fun j v hj=>by simp at hj)
 simpa using this
theorem ad2{P:Program}{w:World}{s d e:TypeId}(hs:P.underlying s=some (.slice e))(he:P.underlying e=some (.int .u8))(hd:P.underlying d=some .string)(ad:Option Addr)(c:Nat):
  (convert s d (.slice ad 0 c)).run P w=.ok (.string ByteArray.empty) w:=by
 cases ad with
 |none=>exact run_convert_bytes_nil w s e hs he 0 c d hd
 |some ad=>
  rw[run_convert_bytes_string w s d e _ 0 c hs he hd,run_bytesToString w ad 0 c [] (anO ad)]
  rfl
theorem anC{o:Oper}{s d e:TypeId}{q:Operand}{xs:List (U.T U.om)}(ho:o.op=.convert s d q)(hx:Rp E w F false (.sl U.om xs) (a.eval q) [])
  (hs:E.P.underlying s=some (.slice e)) (he:E.P.underlying e=some (.int .u8)) (hd:E.P.underlying d=some .string) {kv:Key->Value} {fp:Key->List Nat} {F':Nat->Prop}:cA E F' kv fp bad a w o (uX (.string (strOfNums (xs.map U.Vs)))):=by
 refine⟨.string (strOfNums (xs.map U.Vs)),?_,mB (v:=.string _) ⟨rfl,by simp only[strOfNums_size,wj];exact hx.len⟩⟩
 unfold execOp;simp only[ho]
 refine gF ?_
 rcases hx.inv with⟨h0,ad,c,hv⟩|⟨b,off,cap,vs,hv,_,zj,hc,hr⟩
 ·rw[hv,h0,ad2 hs he hd]
  rfl
 ·rw[hv]
  have hw:U.wd U.om=1:=by
   cases xs with
   |nil=>rw[<-U.cP U.om (U.dt U.om),U.Fz];rfl
   |cons x xs=>rw[<-U.cP U.om x,U.Fz];rfl
  refine run_convert_bytes_arg w s e hs he b off xs.length cap (xs.map U.Vs) (by simp) (fun i hi=> ?_) d hd
  rw[hc i (by rw[hw];omega)]
  have qt:=gr hi
  have fB:=hr i xs[i] 0 (.lit (.int .u8 (U.Vs xs[i]))) qt (by rw[U.Fz];rfl)
  rw[hw,Nat.mul_one,Aj] at fB
  obtain⟨_,hvi,_⟩:=fB.kL
  rw[hvi]
  simp[hi]
end AM
