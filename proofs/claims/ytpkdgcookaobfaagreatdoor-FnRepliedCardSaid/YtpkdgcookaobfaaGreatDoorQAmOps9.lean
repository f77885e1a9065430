/- THE ABSTRACT MACHINE: a parameter as a variable, checks of pointers, conversions. -/
import Derived.Test.YtpkdgcookaobfaaGreatDoorQAmCall3
namespace AM
set_option linter.unusedVariables false
open Go
variable{U:lz}{E:Env U}{pm:Pm}
variable{F F':Nat->Prop}{kv:Key->Value}{fp:Key->List Nat}{σ:ak U}{a:Act}{w w':World}{bad:Key->Bool}
theorem adF{ks:List Key}{x:AC U}(hc:E9 (restrict σ.bO ks) σ.aT x=true):iJ (bW σ) x=false:=by
 have key:∀k p,fR (restrict σ.bO ks) σ.aT k p=true->(!p.isEmpty&&bW σ k)=false:=by
  intro k p hc
  cases p with
  |nil=>rfl
  |cons s p=>
   unfold fR at hc
   simp only[List.isEmpty_cons,Gk,cJ] at hc
   obtain⟨e,he⟩:=nf.1 hc.1
   exact HR (ks:=ks) (p:=s::p) (by unfold fR;simp[hc.1,hc.2]) he
 cases x with
 |ref k p=>exact key k p hc
 |lN k p i wd off=>exact key k p hc
 |_=>rfl
theorem amG(h:cM E pm F kv fp σ a w){o:Oper}{d:Nat}(ho:o.dst=some d)(hd:d<σ.n){t:TypeId}{q:Operand}(sF:o.op=.box t q){x:AV U}(hx:RV E w F kv fp (bW σ) x (a.eval q))
  (vy:∀y∈x.cs,∀k∈y.keys,Names σ k) {ks:List Key} (iv:u4 (restrict σ.bO ks) σ.aT x.cs=true) (ov:¬Names σ (d,0)) {next:Act->World->Prop} {Q:Exit->Act->World->Prop}
  (hn:∀F kv fp a' w',cM E pm F kv fp (AM.apply o ⟨some (one (.ky (d,0) 0)),[(0,.box x.cs)],[],[],[]⟩ σ) a' w'->next a' w'):o.wp E.P a w next Q:=by
 obtain⟨vs,FO,hv⟩:=hx
 have s8:(a.eval q).cells=vs.toArray:=by
  cases Uv:x.agg<;>rw[Uv] at hv<;>simp only[xv,if_false,if_true] at hv
  ·subst hv
   have h1:(a.eval q).oneCell'=true:=by
    have hl:=FO.1
    simp only[fK,fv] at hl
    obtain⟨y,hy⟩:=List.length_eq_one_iff.1 hl
    exact(FO.2 0 y _ (by rw[hy];rfl) rfl).1.1
   cases he:a.eval q<;>first|rfl|(rw[he] at h1;simp[Value.oneCell'] at h1)
  ·rw[hv];rfl
 have jn:(execOp a.eval o).run E.P w=.ok (.value (.pointer (some ⟨w.heap.size,0,none⟩))) (w.alloc (.cells vs.toArray t)):=by
  unfold execOp;simp only[sF]
  refine iD ?_
  simp[Instr.box,newVar,newRow,s8]
 have abi:∀bad,mc E (w.alloc (.cells vs.toArray t)) F (dD kv (d,0) (.pointer (some ⟨w.heap.size,0,none⟩))) (dD fp (d,0) [w.heap.size]) bad x.cs vs:=by
  intro bad
  refine⟨FO.1,fun i y v hy hv=> ?_⟩
  have hym:=Gl hy
  have h1:=FO.2 i y v hy hv
  have hb:=adF (sC.1 iv y hym)
  have h3:=RA.move (bad:=bW σ) (w':=w.alloc (.cells vs.toArray t)) (F':=F) (kv':=dD kv (d,0) (.pointer (some ⟨w.heap.size,0,none⟩))) (fp':=dD fp (d,0) [w.heap.size]) (bad':=bW σ) (cw h1 hb) (fun k hk=> ?_) (fun b hb=>⟨hb,BD w _ (h.uk b hb)⟩)
  ·rcases h3 with h3|h3
   ·rw[hb] at h3;cases h3
   ·exact⟨h1.1,.inr h3⟩
  ·have eZ:k≠(d,0):=fun e=>ov (e▸vy y hym k hk)
   refine⟨BC eZ,?_⟩
   cases iM:bW σ k with
   |true=>exact .inl rfl
   |false=>
    refine .inr ⟨rfl,BC eZ,fun b bj=> ?_⟩
    unfold bW at iM
    simp only[QA] at iM
    cases he:σ.bO k with
    |none=>rw[he] at iM;simp at iM
    |some e=>exact BD w _ (HQ h he bj)
 refine sQ jn (hn F (dD kv (d,0) (.pointer (some ⟨w.heap.size,0,none⟩))) (dD fp (d,0) [w.heap.size]) _ _ (h.Fo (w':=w.alloc (.cells vs.toArray t)) ho hd _ _ [] _ (.pointer (some ⟨w.heap.size,0,none⟩)) _ _ ov ?_ ?_ ?_ ?_ ?_ ?_ ?_ ?_))
 ·intro bad
  exact iu ⟨⟨rfl,trivial⟩,.inr ⟨w.heap.size,t_,rfl⟩⟩
 ·intro bad
  exact⟨w.heap.size,vs.toArray,t,rfl,heap_alloc_new w _,rfl,by simpa using abi bad⟩
 ·intro b hb;exact⟨hb,BD w _ (h.uk b hb)⟩
 ·intro b hb;exact .inl hb
 ·intro k e _ he b hb;exact BD w _ (HQ h he hb)
 ·simp
 ·intro b hb
  rw[mI.1 hb]
  exact⟨fun hF=>by have:=h.uk _ hF;omega,.inr ⟨tX _,by simp⟩⟩
 ·exact hU.alloc _ _ _
theorem Z5{o:Oper}{q:Operand}{sx:SV U}{ad:Addr}(ho:o.op=.nilCheck q)(hx:RS E w F kv fp bad sx (a.eval q))(hp:a.eval q=.pointer (some ad)):cF E F kv fp bad a w o sx:=
 ⟨a.eval q,by unfold execOp;simp only[ho,hp];rfl,hx⟩
theorem alF{o:Oper}{s d:TypeId}{q:Operand}{sx:SV U}{k k0 k':IntKind}{n:Int}(ho:o.op=.convert s d q)(hx:RS E w F kv fp bad sx (a.eval q))(hl:iZ sx=some (.int k' n))
  (hd:E.P.underlying d=some (.int k)) (hs:E.P.underlying s=some (.int k0)):cF E F kv fp bad a w o (wk (.int k (k.wrap n))):=by
 refine⟨.int k (k.wrap n),?_,nc ⟨rfl,wrap_within _ _⟩⟩
 unfold execOp;simp only[ho,qp hx hl]
 refine iD ?_
 simp[convert,run_underlying hs,run_underlying hd,Conv.intToInt]
theorem alO{P:Program}{w:World}(ad:Addr):(loadCells ad 0).run P w=.ok #[] w:=by
 have:=run_loadCells_list (P:=P) w ad [] (fun j v hj=>by simp at hj)
 simpa using this
theorem adD{P:Program}{w:World}{s d e:TypeId}(hs:P.underlying s=some (.slice e))(he:P.underlying e=some (.int .u8))(hd:P.underlying d=some .string)(ad:Option Addr)(c:Nat):
  (convert s d (.slice ad 0 c)).run P w=.ok (.string ByteArray.empty) w:=by
 cases ad with
 |none=>exact run_convert_bytes_nil w s e hs he 0 c d hd
 |some ad=>
  rw[run_convert_bytes_string w s d e _ 0 c hs he hd,run_bytesToString w ad 0 c [] (alO ad)]
  rfl
theorem alG{o:Oper}{s d e:TypeId}{q:Operand}{xs:List (U.T U.pk)}(ho:o.op=.convert s d q)(hx:Rp E w F false (.sl U.pk xs) (a.eval q) [])
  (hs:E.P.underlying s=some (.slice e)) (he:E.P.underlying e=some (.int .u8)) (hd:E.P.underlying d=some .string) {kv:Key->Value} {fp:Key->List Nat} {F':Nat->Prop}:cF E F' kv fp bad a w o (wk (.string (strOfNums (xs.map U.WV)))):=by
 refine⟨.string (strOfNums (xs.map U.WV)),?_,nc (v:=.string _) ⟨rfl,by simp only[strOfNums_size,xt];exact hx.len⟩⟩
 unfold execOp;simp only[ho]
 refine iD ?_
 rcases hx.inv with⟨h0,ad,c,hv⟩|⟨b,off,cap,vs,hv,_,Ac,hc,hr⟩
 ·rw[hv,h0,adD hs he hd]
  rfl
 ·rw[hv]
  have hw:U.wd U.pk=1:=by
   cases xs with
   |nil=>rw[<-U.dz U.pk (U.e6 U.pk),U.Hg];rfl
   |cons x xs=>rw[<-U.dz U.pk x,U.Hg];rfl
  refine run_convert_bytes_arg w s e hs he b off xs.length cap (xs.map U.WV) (by simp) (fun i hi=> ?_) d hd
  rw[hc i (by rw[hw];omega)]
  have wl:=fw hi
  have j6:=hr i xs[i] 0 (.lit (.int .u8 (U.WV xs[i]))) wl (by rw[U.Hg];rfl)
  rw[hw,Nat.mul_one,J6] at j6
  obtain⟨_,hvi,_⟩:=j6.kc
  rw[hvi]
  simp[hi]
end AM
