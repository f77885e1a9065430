import Derived.Test.YthciaocifglggaaGreatDoorQAmCall3
namespace AM
set_option linter.unusedVariables false
open Go
variable{U:kz}{E:Env U}{pm:Pm}
variable{F F':Nat->Prop}{kv:Key->Value}{fp:Key->List Nat}{σ:af U}{a:Act}{w w':World}{bad:Key->Bool}
theorem abf{ks:List Key}{x:AC U}(hc:BF (restrict σ.bH ks) σ.aC x=true):io (bW σ) x=false:=by
 have key:∀k p,fg (restrict σ.bH ks) σ.aC k p=true->(!p.isEmpty&&bW σ k)=false:=by
  intro k p hc
  cases p with
  |nil=>rfl
  |cons s p=>
   unfold fg at hc
   simp only[List.isEmpty_cons,Hv,eE] at hc
   obtain⟨e,he⟩:=lJ.1 hc.1
   exact DF (ks:=ks) (p:=s::p) (by unfold fg;simp[hc.1,hc.2]) he
 cases x with
 |ref k p=>exact key k p hc
 |kM k p i wd off=>exact key k p hc
 |_=>rfl
theorem alK(h:cG E pm F kv fp σ a w){o:Oper}{d:Nat}(ho:o.dst=some d)(hd:d<σ.n){t:TypeId}{q:Operand}(p5:o.op=.box t q){x:AV U}(hx:RV E w F kv fp (bW σ) x (a.eval q))
  (sM:∀y∈x.cs,∀k∈y.keys,Names σ k) {ks:List Key} (gU:sh (restrict σ.bH ks) σ.aC x.cs=true) (ng:¬Names σ (d,0)) {next:Act->World->Prop} {Q:Exit->Act->World->Prop}
  (hn:∀F kv fp a' w',cG E pm F kv fp (AM.apply o ⟨some (one (.j0 (d,0) 0)),[(0,.box x.cs)],[],[],[]⟩ σ) a' w'->next a' w'):o.wp E.P a w next Q:=by
 obtain⟨vs,Ic,hv⟩:=hx
 have qq:(a.eval q).cells=vs.toArray:=by
  cases OX:x.agg<;>rw[OX] at hv<;>simp only[wE,if_false,if_true] at hv
  ·subst hv
   have h1:(a.eval q).oneCell'=true:=by
    have hl:=Ic.1
    simp only[n_,om] at hl
    obtain⟨y,hy⟩:=List.length_eq_one_iff.1 hl
    exact(Ic.2 0 y _ (by rw[hy];rfl) rfl).1.1
   cases he:a.eval q<;>first|rfl|(rw[he] at h1;simp[Value.oneCell'] at h1)
  ·rw[hv];rfl
 have iV:(execOp a.eval o).run E.P w=.ok (.value (.pointer (some ⟨w.heap.size,0,none⟩))) (w.alloc (.cells vs.toArray t)):=by
  unfold execOp;simp only[p5]
  refine ic ?_
  simp[Instr.box,newVar,newRow,qq]
 have XX:∀bad,kX E (w.alloc (.cells vs.toArray t)) F (db kv (d,0) (.pointer (some ⟨w.heap.size,0,none⟩))) (db fp (d,0) [w.heap.size]) bad x.cs vs:=by
  intro bad
  refine⟨Ic.1,fun i y v hy hv=> ?_⟩
  have hym:=Cs hy
  have h1:=Ic.2 i y v hy hv
  have hb:=abf (As.1 gU y hym)
  have h3:=RA.move (bad:=bW σ) (w':=w.alloc (.cells vs.toArray t)) (F':=F) (kv':=db kv (d,0) (.pointer (some ⟨w.heap.size,0,none⟩))) (fp':=db fp (d,0) [w.heap.size]) (bad':=bW σ) (cn h1 hb) (fun k hk=> ?_) (fun b hb=>⟨hb,yf w _ (h.rI b hb)⟩)
  ·rcases h3 with h3|h3
   ·rw[hb] at h3;cases h3
   ·exact⟨h1.1,.inr h3⟩
  ·have et:k≠(d,0):=fun e=>ng (e▸sM y hym k hk)
   refine⟨ye et,?_⟩
   cases iq:bW σ k with
   |true=>exact .inl rfl
   |false=>
    refine .inr ⟨rfl,ye et,fun b aY=> ?_⟩
    unfold bW at iq
    simp only[Ld] at iq
    cases he:σ.bH k with
    |none=>rw[he] at iq;simp at iq
    |some e=>exact yf w _ (DE h he aY)
 refine qd iV (hn F (db kv (d,0) (.pointer (some ⟨w.heap.size,0,none⟩))) (db fp (d,0) [w.heap.size]) _ _ (h.BJ (w':=w.alloc (.cells vs.toArray t)) ho hd _ _ [] _ (.pointer (some ⟨w.heap.size,0,none⟩)) _ _ ng ?_ ?_ ?_ ?_ ?_ ?_ ?_ ?_))
 ·intro bad
  exact gZ ⟨⟨rfl,trivial⟩,.inr ⟨w.heap.size,rA,rfl⟩⟩
 ·intro bad
  exact⟨w.heap.size,vs.toArray,t,rfl,heap_alloc_new w _,rfl,by simpa using XX bad⟩
 ·intro b hb;exact⟨hb,yf w _ (h.rI b hb)⟩
 ·intro b hb;exact .inl hb
 ·intro k e _ he b hb;exact yf w _ (DE h he hb)
 ·simp
 ·intro b hb
  rw[oa.1 hb]
  exact⟨fun hF=>by have:=h.rI _ hF;omega,.inr ⟨tB _,by simp⟩⟩
 ·exact gy.alloc _ _ _
theorem Wl{o:Oper}{q:Operand}{sx:SV U}{ad:Addr}(ho:o.op=.nilCheck q)(hx:RS E w F kv fp bad sx (a.eval q))(hp:a.eval q=.pointer (some ad)):cv E F kv fp bad a w o sx:=
 ⟨a.eval q,by unfold execOp;simp only[ho,hp];rfl,hx⟩
theorem akH{o:Oper}{s d:TypeId}{q:Operand}{sx:SV U}{k k0 k':IntKind}{n:Int}(ho:o.op=.convert s d q)(hx:RS E w F kv fp bad sx (a.eval q))(hl:iC sx=some (.int k' n))
  (hd:E.P.underlying d=some (.int k)) (hs:E.P.underlying s=some (.int k0)):cv E F kv fp bad a w o (tD (.int k (k.wrap n))):=by
 refine⟨.int k (k.wrap n),?_,lG ⟨rfl,wrap_within _ _⟩⟩
 unfold execOp;simp only[ho,og hx hl]
 refine ic ?_
 simp[convert,run_underlying hs,run_underlying hd,Conv.intToInt]
theorem akQ{P:Program}{w:World}(ad:Addr):(loadCells ad 0).run P w=.ok #[] w:=by
 have:=run_loadCells_list (P:=P) w ad [] (fun j v hj=>by simp at hj)
 simpa using this
theorem abd{P:Program}{w:World}{s d e:TypeId}(hs:P.underlying s=some (.slice e))(he:P.underlying e=some (.int .u8))(hd:P.underlying d=some .string)(ad:Option Addr)(c:Nat):
  (convert s d (.slice ad 0 c)).run P w=.ok (.string ByteArray.empty) w:=by
 cases ad with
 |none=>exact run_convert_bytes_nil w s e hs he 0 c d hd
 |some ad=>
  rw[run_convert_bytes_string w s d e _ 0 c hs he hd,run_bytesToString w ad 0 c [] (akQ ad)]
  rfl
theorem akI{o:Oper}{s d e:TypeId}{q:Operand}{xs:List (U.T U.nk)}(ho:o.op=.convert s d q)(hx:Rp E w F false (.sl U.nk xs) (a.eval q) [])
  (hs:E.P.underlying s=some (.slice e)) (he:E.P.underlying e=some (.int .u8)) (hd:E.P.underlying d=some .string) {kv:Key->Value} {fp:Key->List Nat} {F':Nat->Prop}:cv E F' kv fp bad a w o (tD (.string (strOfNums (xs.map U.R1)))):=by
 refine⟨.string (strOfNums (xs.map U.R1)),?_,lG (v:=.string _) ⟨rfl,by simp only[strOfNums_size,BV];exact hx.len⟩⟩
 unfold execOp;simp only[ho]
 refine ic ?_
 rcases hx.inv with⟨h0,ad,c,hv⟩|⟨b,off,cap,vs,hv,_,w8,hc,hr⟩
 ·rw[hv,h0,abd hs he hd]
  rfl
 ·rw[hv]
  have hw:U.wd U.nk=1:=by
   cases xs with
   |nil=>rw[<-U.cZ U.nk (U.eP U.nk),U.C_];rfl
   |cons x xs=>rw[<-U.cZ U.nk x,U.C_];rfl
  refine run_convert_bytes_arg w s e hs he b off xs.length cap (xs.map U.R1) (by simp) (fun i hi=> ?_) d hd
  rw[hc i (by rw[hw];omega)]
  have tE:=gg hi
  have jy:=hr i xs[i] 0 (.lit (.int .u8 (U.R1 xs[i]))) tE (by rw[U.C_];rfl)
  rw[hw,Nat.mul_one,FD] at jy
  obtain⟨_,hvi,_⟩:=jy.jC
  rw[hvi]
  simp[hi]
end AM
