/- THE ABSTRACT MACHINE: a parameter as a variable, checks of pointers, conversions. -/
import Derived.Test.YtceiiofmelhipaaGreatAmCall3
namespace AM
set_option linter.unusedVariables false
open Go
variable{U:Uni}{E:Env U}{pm:Pm}
variable{F F':Nat→Prop}{kv:Key→Value}{fp:Key→List Nat}{σ:AState U}{a:Act}{w w':World}{bad:Key→Bool}
theorem qacn{ks:List Key}{x:AC U}(hc:clearC (restrict σ.ent ks) σ.dirty x=true):badAC (badK σ) x=false:=by
 have key:∀k p,clearP (restrict σ.ent ks) σ.dirty k p=true→(!p.isEmpty&&badK σ k)=false:=by
  intro k p hc
  cases p with
  |nil=>rfl
  |cons s p=>
   unfold clearP at hc
   simp only[List.isEmpty_cons,zcw,zaf] at hc
   obtain⟨e,he⟩:=zag.1 hc.1
   exact qaco (ks:=ks) (p:=s::p) (by unfold clearP;simp[hc.1,hc.2]) he
 cases x with
 |ref k p=>exact key k p hc
 |eptr k p i wd off=>exact key k p hc
 |_=>rfl
theorem qabz(h:Sim E pm F kv fp σ a w){o:Oper}{d:Nat}(ho:o.dst=some d)(hd:d<σ.n){t:TypeId}{q:Operand}(hop:o.op=.box t q){x:AV U}(hx:RV E w F kv fp (badK σ) x (a.eval q))
  (hnm:∀y∈x.cs,∀k∈y.keys,Names σ k) {ks:List Key} (hcl:clearAll (restrict σ.ent ks) σ.dirty x.cs=true) (hfr:¬Names σ (d,0)) {next:Act→World→Prop} {Q:Exit→Act→World→Prop}
  (hn:∀F kv fp a' w',Sim E pm F kv fp (AM.apply o ⟨some (one (.bptr (d,0) 0)),[(0,.box x.cs)],[],[],[]⟩ σ) a' w'→next a' w'):o.wp E.P a w next Q:=by
 obtain⟨vs,hvs,hv⟩:=hx
 have hcells:(a.eval q).cells=vs.toArray:=by
  cases hag:x.agg<;>rw[hag] at hv<;>simp only[zbg,if_false,if_true] at hv
  ·subst hv
   have h1:(a.eval q).oneCell'=true:=by
    have hl:=hvs.1
    simp only[zbq,zbo] at hl
    obtain⟨y,hy⟩:=List.length_eq_one_iff.1 hl
    exact(hvs.2 0 y _ (by rw[hy];rfl) rfl).1.1
   cases he:a.eval q<;>first|rfl|(rw[he] at h1;simp[Value.oneCell'] at h1)
  ·rw[hv];rfl
 have hrun:(execOp a.eval o).run E.P w=.ok (.value (.pointer (some ⟨w.heap.size,0,none⟩))) (w.alloc (.cells vs.toArray t)):=by
  unfold execOp;simp only[hop]
  refine run_v ?_
  simp[Instr.box,newVar,newRow,hcells]
 have hclean:∀bad,RDs E (w.alloc (.cells vs.toArray t)) F (setKey kv (d,0) (.pointer (some ⟨w.heap.size,0,none⟩))) (setKey fp (d,0) [w.heap.size]) bad x.cs vs:=by
  intro bad
  refine⟨hvs.1,fun i y v hy hv=> ?_⟩
  have hym:=zbl hy
  have h1:=hvs.2 i y v hy hv
  have hb:=qacn (zcb.1 hcl y hym)
  have h3:=RA.move (bad:=badK σ) (w':=w.alloc (.cells vs.toArray t)) (F':=F) (kv':=setKey kv (d,0) (.pointer (some ⟨w.heap.size,0,none⟩))) (fp':=setKey fp (d,0) [w.heap.size]) (bad':=badK σ) (RA_of h1 hb) (fun k hk=> ?_) (fun b hb=>⟨hb,qaga w _ (h.Flt b hb)⟩)
  ·rcases h3 with h3|h3
   ·rw[hb] at h3;cases h3
   ·exact⟨h1.1,.inr h3⟩
  ·have hne:k≠(d,0):=fun e=>hfr (e▸hnm y hym k hk)
   refine⟨qalv hne,?_⟩
   cases hbk:badK σ k with
   |true=>exact .inl rfl
   |false=>
    refine .inr ⟨rfl,qalv hne,fun b hb'=> ?_⟩
    unfold badK at hbk
    simp only[zcp] at hbk
    cases he:σ.ent k with
    |none=>rw[he] at hbk;simp at hbk
    |some e=>exact qaga w _ (qafk h he hb')
 refine qanv hrun (hn F (setKey kv (d,0) (.pointer (some ⟨w.heap.size,0,none⟩))) (setKey fp (d,0) [w.heap.size]) _ _ (h.add1 (w':=w.alloc (.cells vs.toArray t)) ho hd _ _ [] _ (.pointer (some ⟨w.heap.size,0,none⟩)) _ _ hfr ?_ ?_ ?_ ?_ ?_ ?_ ?_ ?_))
 ·intro bad
  exact RS_one ⟨⟨rfl,trivial⟩,.inr ⟨w.heap.size,qalw,rfl⟩⟩
 ·intro bad
  exact⟨w.heap.size,vs.toArray,t,rfl,heap_alloc_new w _,rfl,by simpa using hclean bad⟩
 ·intro b hb;exact⟨hb,qaga w _ (h.Flt b hb)⟩
 ·intro b hb;exact .inl hb
 ·intro k e _ he b hb;exact qaga w _ (qafk h he hb)
 ·simp
 ·intro b hb
  rw[zau.1 hb]
  exact⟨fun hF=>by have:=h.Flt _ hF;omega,.inr ⟨zca _,by simp⟩⟩
 ·exact Upto.alloc _ _ _
theorem qaif{o:Oper}{q:Operand}{sx:SV U}{ad:Addr}(ho:o.op=.nilCheck q)(hx:RS E w F kv fp bad sx (a.eval q))(hp:a.eval q=.pointer (some ad)):Makes E F kv fp bad a w o sx:=
 ⟨a.eval q,by unfold execOp;simp only[ho,hp];rfl,hx⟩
theorem qaho{o:Oper}{s d:TypeId}{q:Operand}{sx:SV U}{k k0 k':IntKind}{n:Int}(ho:o.op=.convert s d q)(hx:RS E w F kv fp bad sx (a.eval q))(hl:lit? sx=some (.int k' n))
  (hd:E.P.underlying d=some (.int k)) (hs:E.P.underlying s=some (.int k0)):Makes E F kv fp bad a w o (litV (.int k (k.wrap n))):=by
 refine⟨.int k (k.wrap n),?_,RS_lit ⟨rfl,wrap_within _ _⟩⟩
 unfold execOp;simp only[ho,qaah hx hl]
 refine run_v ?_
 simp[convert,run_underlying hs,run_underlying hd,Conv.intToInt]
theorem qagv{P:Program}{w:World}(ad:Addr):(loadCells ad 0).run P w=.ok #[] w:=by
 have:=run_loadCells_list (P:=P) w ad [] (fun j v hj=>by simp at hj)
 simpa using this
theorem qacv{P:Program}{w:World}{s d e:TypeId}(hs:P.underlying s=some (.slice e))(he:P.underlying e=some (.int .u8))(hd:P.underlying d=some .string)(ad:Option Addr)(c:Nat):
  (convert s d (.slice ad 0 c)).run P w=.ok (.string ByteArray.empty) w:=by
 cases ad with
 |none=>exact run_convert_bytes_nil w s e hs he 0 c d hd
 |some ad=>
  rw[run_convert_bytes_string w s d e _ 0 c hs he hd,run_bytesToString w ad 0 c [] (qagv ad)]
  rfl
theorem qahn{o:Oper}{s d e:TypeId}{q:Operand}{xs:List (U.T U.bcode)}(ho:o.op=.convert s d q)(hx:Rp E w F false (.sl U.bcode xs) (a.eval q) [])
  (hs:E.P.underlying s=some (.slice e)) (he:E.P.underlying e=some (.int .u8)) (hd:E.P.underlying d=some .string) {kv:Key→Value} {fp:Key→List Nat} {F':Nat→Prop}:Makes E F' kv fp bad a w o (litV (.string (strOfNums (xs.map U.toB)))):=by
 refine⟨.string (strOfNums (xs.map U.toB)),?_,RS_lit (v:=.string _) ⟨rfl,by simp only[strOfNums_size,zco];exact hx.len⟩⟩
 unfold execOp;simp only[ho]
 refine run_v ?_
 rcases hx.inv with⟨h0,ad,c,hv⟩|⟨b,off,cap,vs,hv,_,hcap,hc,hr⟩
 ·rw[hv,h0,qacv hs he hd]
  rfl
 ·rw[hv]
  have hw:U.wd U.bcode=1:=by
   cases xs with
   |nil=>rw[←U.enc_len U.bcode (U.dflt U.bcode),U.enc_b];rfl
   |cons x xs=>rw[←U.enc_len U.bcode x,U.enc_b];rfl
  refine run_convert_bytes_arg w s e hs he b off xs.length cap (xs.map U.toB) (by simp) (fun i hi=> ?_) d hd
  rw[hc i (by rw[hw];omega)]
  have hxi:=zad hi
  have hrow:=hr i xs[i] 0 (.lit (.int .u8 (U.toB xs[i]))) hxi (by rw[U.enc_b];rfl)
  rw[hw,Nat.mul_one,zcv] at hrow
  obtain⟨_,hvi,_⟩:=hrow.lit_all
  rw[hvi]
  simp[hi]
end AM
