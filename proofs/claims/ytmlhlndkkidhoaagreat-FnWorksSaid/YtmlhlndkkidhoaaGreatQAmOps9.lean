/- THE ABSTRACT MACHINE: a parameter as a variable, checks of pointers, conversions. -/
import Derived.Test.YtmlhlndkkidhoaaGreatQAmCall3
namespace AM
set_option linter.unusedVariables false
open Go
variable{U:kZ}{E:Env U}{pm:Pm}
variable{F F':Nat->Prop}{kv:Key->Value}{fp:Key->List Nat}{σ:ah U}{a:Act}{w w':World}{bad:Key->Bool}
theorem acV{ks:List Key}{x:AC U}(hc:Dy (restrict σ.bJ ks) σ.aK x=true):iG (bW σ) x=false:=by
 have key:∀k p,fL (restrict σ.bJ ks) σ.aK k p=true->(!p.isEmpty&&bW σ k)=false:=by
  intro k p hc
  cases p with
  |nil=>rfl
  |cons s p=>
   unfold fL at hc
   simp only[List.isEmpty_cons,FT,cK] at hc
   obtain⟨e,he⟩:=mI.1 hc.1
   exact Gd (ks:=ks) (p:=s::p) (by unfold fL;simp[hc.1,hc.2]) he
 cases x with
 |ref k p=>exact key k p hc
 |lg k p i wd off=>exact key k p hc
 |_=>rfl
theorem anH(h:cE E pm F kv fp σ a w){o:Oper}{d:Nat}(ho:o.dst=some d)(hd:d<σ.n){t:TypeId}{q:Operand}(rf:o.op=.box t q){x:AV U}(hx:RV E w F kv fp (bW σ) x (a.eval q))
  (uk:∀y∈x.cs,∀k∈y.keys,Names σ k) {ks:List Key} (iq:tK (restrict σ.bJ ks) σ.aK x.cs=true) (nM:¬Names σ (d,0)) {next:Act->World->Prop} {Q:Exit->Act->World->Prop}
  (hn:∀F kv fp a' w',cE E pm F kv fp (AM.apply o ⟨some (one (.kc (d,0) 0)),[(0,.box x.cs)],[],[],[]⟩ σ) a' w'->next a' w'):o.wp E.P a w next Q:=by
 obtain⟨vs,Eh,hv⟩:=hx
 have vY:(a.eval q).cells=vs.toArray:=by
  cases Tf:x.agg<;>rw[Tf] at hv<;>simp only[wx,if_false,if_true] at hv
  ·subst hv
   have h1:(a.eval q).oneCell'=true:=by
    have hl:=Eh.1
    simp only[gv,fO] at hl
    obtain⟨y,hy⟩:=List.length_eq_one_iff.1 hl
    exact(Eh.2 0 y _ (by rw[hy];rfl) rfl).1.1
   cases he:a.eval q<;>first|rfl|(rw[he] at h1;simp[Value.oneCell'] at h1)
  ·rw[hv];rfl
 have je:(execOp a.eval o).run E.P w=.ok (.value (.pointer (some ⟨w.heap.size,0,none⟩))) (w.alloc (.cells vs.toArray t)):=by
  unfold execOp;simp only[rf]
  refine iA ?_
  simp[Instr.box,newVar,newRow,vY]
 have Y_:∀bad,ly E (w.alloc (.cells vs.toArray t)) F (dl kv (d,0) (.pointer (some ⟨w.heap.size,0,none⟩))) (dl fp (d,0) [w.heap.size]) bad x.cs vs:=by
  intro bad
  refine⟨Eh.1,fun i y v hy hv=> ?_⟩
  have hym:=EM hy
  have h1:=Eh.2 i y v hy hv
  have hb:=acV (rh.1 iq y hym)
  have h3:=RA.move (bad:=bW σ) (w':=w.alloc (.cells vs.toArray t)) (F':=F) (kv':=dl kv (d,0) (.pointer (some ⟨w.heap.size,0,none⟩))) (fp':=dl fp (d,0) [w.heap.size]) (bad':=bW σ) (cf h1 hb) (fun k hk=> ?_) (fun b hb=>⟨hb,Ah w _ (h.sZ b hb)⟩)
  ·rcases h3 with h3|h3
   ·rw[hb] at h3;cases h3
   ·exact⟨h1.1,.inr h3⟩
  ·have eO:k≠(d,0):=fun e=>nM (e▸uk y hym k hk)
   refine⟨Ag eO,?_⟩
   cases iO:bW σ k with
   |true=>exact .inl rfl
   |false=>
    refine .inr ⟨rfl,Ag eO,fun b bf=> ?_⟩
    unfold bW at iO
    simp only[Oc] at iO
    cases he:σ.bJ k with
    |none=>rw[he] at iO;simp at iO
    |some e=>exact Ah w _ (Gc h he bf)
 refine rD je (hn F (dl kv (d,0) (.pointer (some ⟨w.heap.size,0,none⟩))) (dl fp (d,0) [w.heap.size]) _ _ (h.DN (w':=w.alloc (.cells vs.toArray t)) ho hd _ _ [] _ (.pointer (some ⟨w.heap.size,0,none⟩)) _ _ nM ?_ ?_ ?_ ?_ ?_ ?_ ?_ ?_))
 ·intro bad
  exact ik ⟨⟨rfl,trivial⟩,.inr ⟨w.heap.size,sP,rfl⟩⟩
 ·intro bad
  exact⟨w.heap.size,vs.toArray,t,rfl,heap_alloc_new w _,rfl,by simpa using Y_ bad⟩
 ·intro b hb;exact⟨hb,Ah w _ (h.sZ b hb)⟩
 ·intro b hb;exact .inl hb
 ·intro k e _ he b hb;exact Ah w _ (Gc h he hb)
 ·simp
 ·intro b hb
  rw[ma.1 hb]
  exact⟨fun hF=>by have:=h.sZ _ hF;omega,.inr ⟨s_ _,by simp⟩⟩
 ·exact gN.alloc _ _ _
theorem XN{o:Oper}{q:Operand}{sx:SV U}{ad:Addr}(ho:o.op=.nilCheck q)(hx:RS E w F kv fp bad sx (a.eval q))(hp:a.eval q=.pointer (some ad)):cB E F kv fp bad a w o sx:=
 ⟨a.eval q,by unfold execOp;simp only[ho,hp];rfl,hx⟩
theorem amC{o:Oper}{s d:TypeId}{q:Operand}{sx:SV U}{k k0 k':IntKind}{n:Int}(ho:o.op=.convert s d q)(hx:RS E w F kv fp bad sx (a.eval q))(hl:iR sx=some (.int k' n))
  (hd:E.P.underlying d=some (.int k)) (hs:E.P.underlying s=some (.int k0)):cB E F kv fp bad a w o (u4 (.int k (k.wrap n))):=by
 refine⟨.int k (k.wrap n),?_,mH ⟨rfl,wrap_within _ _⟩⟩
 unfold execOp;simp only[ho,pH hx hl]
 refine iA ?_
 simp[convert,run_underlying hs,run_underlying hd,Conv.intToInt]
theorem amL{P:Program}{w:World}(ad:Addr):(loadCells ad 0).run P w=.ok #[] w:=by
 have:=run_loadCells_list (P:=P) w ad [] (fun j v hj=>by simp at hj)
 simpa using this
theorem acT{P:Program}{w:World}{s d e:TypeId}(hs:P.underlying s=some (.slice e))(he:P.underlying e=some (.int .u8))(hd:P.underlying d=some .string)(ad:Option Addr)(c:Nat):
  (convert s d (.slice ad 0 c)).run P w=.ok (.string ByteArray.empty) w:=by
 cases ad with
 |none=>exact run_convert_bytes_nil w s e hs he 0 c d hd
 |some ad=>
  rw[run_convert_bytes_string w s d e _ 0 c hs he hd,run_bytesToString w ad 0 c [] (amL ad)]
  rfl
theorem amD{o:Oper}{s d e:TypeId}{q:Operand}{xs:List (U.T U.ot)}(ho:o.op=.convert s d q)(hx:Rp E w F false (.sl U.ot xs) (a.eval q) [])
  (hs:E.P.underlying s=some (.slice e)) (he:E.P.underlying e=some (.int .u8)) (hd:E.P.underlying d=some .string) {kv:Key->Value} {fp:Key->List Nat} {F':Nat->Prop}:cB E F' kv fp bad a w o (u4 (.string (strOfNums (xs.map U.VO)))):=by
 refine⟨.string (strOfNums (xs.map U.VO)),?_,mH (v:=.string _) ⟨rfl,by simp only[strOfNums_size,wv];exact hx.len⟩⟩
 unfold execOp;simp only[ho]
 refine iA ?_
 rcases hx.inv with⟨h0,ad,c,hv⟩|⟨b,off,cap,vs,hv,_,Dd,hc,hr⟩
 ·rw[hv,h0,acT hs he hd]
  rfl
 ·rw[hv]
  have hw:U.wd U.ot=1:=by
   cases xs with
   |nil=>rw[<-U.dj U.ot (U.e_ U.ot),U.Fz];rfl
   |cons x xs=>rw[<-U.dj U.ot x,U.Fz];rfl
  refine run_convert_bytes_arg w s e hs he b off xs.length cap (xs.map U.VO) (by simp) (fun i hi=> ?_) d hd
  rw[hc i (by rw[hw];omega)]
  have u6:=fo hi
  have jT:=hr i xs[i] 0 (.lit (.int .u8 (U.VO xs[i]))) u6 (by rw[U.Fz];rfl)
  rw[hw,Nat.mul_one,H0] at jT
  obtain⟨_,hvi,_⟩:=jT.mh
  rw[hvi]
  simp[hi]
end AM
