/- THE ABSTRACT MACHINE: a parameter as a variable, checks of pointers, conversions. -/
import Derived.Test.YtjlajhgabffmpaaGreatQAmCall3
namespace AM
set_option linter.unusedVariables false
open Go
variable{U:lu}{E:Env U}{pm:Pm}
variable{F F':Nat->Prop}{kv:Key->Value}{fp:Key->List Nat}{σ:ai U}{a:Act}{w w':World}{bad:Key->Bool}
theorem adf{ks:List Key}{x:AC U}(hc:E8 (restrict σ.bM ks) σ.aN x=true):iX (bR σ) x=false:=by
 have key:∀k p,fW (restrict σ.bM ks) σ.aN k p=true->(!p.isEmpty&&bR σ k)=false:=by
  intro k p hc
  cases p with
  |nil=>rfl
  |cons s p=>
   unfold fW at hc
   simp only[List.isEmpty_cons,Gl,cO] at hc
   obtain⟨e,he⟩:=m8.1 hc.1
   exact HJ (ks:=ks) (p:=s::p) (by unfold fW;simp[hc.1,hc.2]) he
 cases x with
 |ref k p=>exact key k p hc
 |lK k p i wd off=>exact key k p hc
 |_=>rfl
theorem alT(h:cQ E pm F kv fp σ a w){o:Oper}{d:Nat}(ho:o.dst=some d)(hd:d<σ.n){t:TypeId}{q:Operand}(sj:o.op=.box t q){x:AV U}(hx:RV E w F kv fp (bR σ) x (a.eval q))
  (vv:∀y∈x.cs,∀k∈y.keys,Names σ k) {ks:List Key} (iH:uS (restrict σ.bM ks) σ.aN x.cs=true) (od:¬Names σ (d,0)) {next:Act->World->Prop} {Q:Exit->Act->World->Prop}
  (hn:∀F kv fp a' w',cQ E pm F kv fp (AM.apply o ⟨some (one (.kH (d,0) 0)),[(0,.box x.cs)],[],[],[]⟩ σ) a' w'->next a' w'):o.wp E.P a w next Q:=by
 obtain⟨vs,FO,hv⟩:=hx
 have w8:(a.eval q).cells=vs.toArray:=by
  cases Uu:x.agg<;>rw[Uu] at hv<;>simp only[xt,if_false,if_true] at hv
  ·subst hv
   have h1:(a.eval q).oneCell'=true:=by
    have hl:=FO.1
    simp only[fY,fG] at hl
    obtain⟨y,hy⟩:=List.length_eq_one_iff.1 hl
    exact(FO.2 0 y _ (by rw[hy];rfl) rfl).1.1
   cases he:a.eval q<;>first|rfl|(rw[he] at h1;simp[Value.oneCell'] at h1)
  ·rw[hv];rfl
 have jz:(execOp a.eval o).run E.P w=.ok (.value (.pointer (some ⟨w.heap.size,0,none⟩))) (w.alloc (.cells vs.toArray t)):=by
  unfold execOp;simp only[sj]
  refine iQ ?_
  simp[Instr.box,newVar,newRow,w8]
 have aaV:∀bad,l8 E (w.alloc (.cells vs.toArray t)) F (dQ kv (d,0) (.pointer (some ⟨w.heap.size,0,none⟩))) (dQ fp (d,0) [w.heap.size]) bad x.cs vs:=by
  intro bad
  refine⟨FO.1,fun i y v hy hv=> ?_⟩
  have hym:=Gn hy
  have h1:=FO.2 i y v hy hv
  have hb:=adf (sk.1 iH y hym)
  have h3:=RA.move (bad:=bR σ) (w':=w.alloc (.cells vs.toArray t)) (F':=F) (kv':=dQ kv (d,0) (.pointer (some ⟨w.heap.size,0,none⟩))) (fp':=dQ fp (d,0) [w.heap.size]) (bad':=bR σ) (cw h1 hb) (fun k hk=> ?_) (fun b hb=>⟨hb,Bv w _ (h.uc b hb)⟩)
  ·rcases h3 with h3|h3
   ·rw[hb] at h3;cases h3
   ·exact⟨h1.1,.inr h3⟩
  ·have fg:k≠(d,0):=fun e=>od (e▸vv y hym k hk)
   refine⟨Bu fg,?_⟩
   cases jg:bR σ k with
   |true=>exact .inl rfl
   |false=>
    refine .inr ⟨rfl,Bu fg,fun b bg=> ?_⟩
    unfold bR at jg
    simp only[QL] at jg
    cases he:σ.bM k with
    |none=>rw[he] at jg;simp at jg
    |some e=>exact Bv w _ (HI h he bg)
 refine sH jz (hn F (dQ kv (d,0) (.pointer (some ⟨w.heap.size,0,none⟩))) (dQ fp (d,0) [w.heap.size]) _ _ (h.Fp (w':=w.alloc (.cells vs.toArray t)) ho hd _ _ [] _ (.pointer (some ⟨w.heap.size,0,none⟩)) _ _ od ?_ ?_ ?_ ?_ ?_ ?_ ?_ ?_))
 ·intro bad
  exact iD ⟨⟨rfl,trivial⟩,.inr ⟨w.heap.size,tU,rfl⟩⟩
 ·intro bad
  exact⟨w.heap.size,vs.toArray,t,rfl,heap_alloc_new w _,rfl,by simpa using aaV bad⟩
 ·intro b hb;exact⟨hb,Bv w _ (h.uc b hb)⟩
 ·intro b hb;exact .inl hb
 ·intro k e _ he b hb;exact Bv w _ (HI h he hb)
 ·simp
 ·intro b hb
  rw[mF.1 hb]
  exact⟨fun hF=>by have:=h.uc _ hF;omega,.inr ⟨tR _,by simp⟩⟩
 ·exact iC.alloc _ _ _
theorem ZL{o:Oper}{q:Operand}{sx:SV U}{ad:Addr}(ho:o.op=.nilCheck q)(hx:RS E w F kv fp bad sx (a.eval q))(hp:a.eval q=.pointer (some ad)):cK E F kv fp bad a w o sx:=
 ⟨a.eval q,by unfold execOp;simp only[ho,hp];rfl,hx⟩
theorem akQ{o:Oper}{s d:TypeId}{q:Operand}{sx:SV U}{k k0 k':IntKind}{n:Int}(ho:o.op=.convert s d q)(hx:RS E w F kv fp bad sx (a.eval q))(hl:jj sx=some (.int k' n))
  (hd:E.P.underlying d=some (.int k)) (hs:E.P.underlying s=some (.int k0)):cK E F kv fp bad a w o (we (.int k (k.wrap n))):=by
 refine⟨.int k (k.wrap n),?_,m6 ⟨rfl,wrap_within _ _⟩⟩
 unfold execOp;simp only[ho,qd hx hl]
 refine iQ ?_
 simp[convert,run_underlying hs,run_underlying hd,Conv.intToInt]
theorem akZ{P:Program}{w:World}(ad:Addr):(loadCells ad 0).run P w=.ok #[] w:=by
 have:=run_loadCells_list (P:=P) w ad [] (fun j v hj=>by simp at hj)
 simpa using this
theorem adb{P:Program}{w:World}{s d e:TypeId}(hs:P.underlying s=some (.slice e))(he:P.underlying e=some (.int .u8))(hd:P.underlying d=some .string)(ad:Option Addr)(c:Nat):
  (convert s d (.slice ad 0 c)).run P w=.ok (.string ByteArray.empty) w:=by
 cases ad with
 |none=>exact run_convert_bytes_nil w s e hs he 0 c d hd
 |some ad=>
  rw[run_convert_bytes_string w s d e _ 0 c hs he hd,run_bytesToString w ad 0 c [] (akZ ad)]
  rfl
theorem akR{o:Oper}{s d e:TypeId}{q:Operand}{xs:List (U.T U.o9)}(ho:o.op=.convert s d q)(hx:Rp E w F false (.sl U.o9 xs) (a.eval q) [])
  (hs:E.P.underlying s=some (.slice e)) (he:E.P.underlying e=some (.int .u8)) (hd:E.P.underlying d=some .string) {kv:Key->Value} {fp:Key->List Nat} {F':Nat->Prop}:cK E F' kv fp bad a w o (we (.string (strOfNums (xs.map U.WN)))):=by
 refine⟨.string (strOfNums (xs.map U.WN)),?_,m6 (v:=.string _) ⟨rfl,by simp only[strOfNums_size,xp];exact hx.len⟩⟩
 unfold execOp;simp only[ho]
 refine iQ ?_
 rcases hx.inv with⟨h0,ad,c,hv⟩|⟨b,off,cap,vs,hv,_,EO,hc,hr⟩
 ·rw[hv,h0,adb hs he hd]
  rfl
 ·rw[hv]
  have hw:U.wd U.o9=1:=by
   cases xs with
   |nil=>rw[<-U.dK U.o9 (U.fq U.o9),U.Ha];rfl
   |cons x xs=>rw[<-U.dK U.o9 x,U.Ha];rfl
  refine run_convert_bytes_arg w s e hs he b off xs.length cap (xs.map U.WN) (by simp) (fun i hi=> ?_) d hd
  rw[hc i (by rw[hw];omega)]
  have wg:=fH hi
  have kk:=hr i xs[i] 0 (.lit (.int .u8 (U.WN xs[i]))) wg (by rw[U.Ha];rfl)
  rw[hw,Nat.mul_one,JV] at kk
  obtain⟨_,hvi,_⟩:=kk.mJ
  rw[hvi]
  simp[hi]
end AM
