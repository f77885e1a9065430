/- THE ABSTRACT MACHINE: a parameter as a variable, checks of pointers, conversions. -/
import Derived.Test.YtlachfpabecaeaaQAmCall3
namespace AM
set_option linter.unusedVariables false
open Go
variable{U:dh}{E:Env U}{pm:Pm}
variable{F F':Nat->Prop}{kv:Key->Value}{fp:Key->List Nat}{σ:aa U}{a:Act}{w w':World}{bad:Key->Bool}
theorem DU{ks:List Key}{x:AC U}(hc:mE (restrict σ.aq ks) σ.ag x=true):ck (av σ) x=false:=by
 have key:∀k p,bE (restrict σ.aq ks) σ.ag k p=true->(!p.isEmpty&&av σ k)=false:=by
  intro k p hc
  cases p with
  |nil=>rfl
  |cons s p=>
   unfold bE at hc
   simp only[List.isEmpty_cons,rh,dR] at hc
   obtain⟨e,he⟩:=ef.1 hc.1
   exact nV (ks:=ks) (p:=s::p) (by unfold bE;simp[hc.1,hc.2]) he
 cases x with
 |ref k p=>exact key k p hc
 |dt k p i wd off=>exact key k p hc
 |_=>rfl
theorem Jz(h:aC E pm F kv fp σ a w){o:Oper}{d:Nat}(ho:o.dst=some d)(hd:d<σ.n){t:TypeId}{q:Operand}(fV:o.op=.box t q){x:AV U}(hx:RV E w F kv fp (av σ) x (a.eval q))
  (gi:∀y∈x.cs,∀k∈y.keys,Names σ k) {ks:List Key} (cp:ir (restrict σ.aq ks) σ.ag x.cs=true) (eK:¬Names σ (d,0)) {next:Act->World->Prop} {Q:Exit->Act->World->Prop}
  (hn:∀F kv fp a' w',aC E pm F kv fp (AM.apply o ⟨some (one (.cR (d,0) 0)),[(0,.box x.cs)],[],[],[]⟩ σ) a' w'->next a' w'):o.wp E.P a w next Q:=by
 obtain⟨vs,qj,hv⟩:=hx
 have jq:(a.eval q).cells=vs.toArray:=by
  cases vD:x.agg<;>rw[vD] at hv<;>simp only[lN,if_false,if_true] at hv
  ·subst hv
   have h1:(a.eval q).oneCell'=true:=by
    have hl:=qj.1
    simp only[xl,vu] at hl
    obtain⟨y,hy⟩:=List.length_eq_one_iff.1 hl
    exact(qj.2 0 y _ (by rw[hy];rfl) rfl).1.1
   cases he:a.eval q<;>first|rfl|(rw[he] at h1;simp[Value.oneCell'] at h1)
  ·rw[hv];rfl
 have cu:(execOp a.eval o).run E.P w=.ok (.value (.pointer (some ⟨w.heap.size,0,none⟩))) (w.alloc (.cells vs.toArray t)):=by
  unfold execOp;simp only[fV]
  refine cd ?_
  simp[Instr.box,newVar,newRow,jq]
 have An:∀bad,dC E (w.alloc (.cells vs.toArray t)) F (aO kv (d,0) (.pointer (some ⟨w.heap.size,0,none⟩))) (aO fp (d,0) [w.heap.size]) bad x.cs vs:=by
  intro bad
  refine⟨qj.1,fun i y v hy hv=> ?_⟩
  have Ot:=np hy
  have h1:=qj.2 i y v hy hv
  have hb:=DU (qp.1 cp y Ot)
  have h3:=RA.move (bad:=av σ) (w':=w.alloc (.cells vs.toArray t)) (F':=F) (kv':=aO kv (d,0) (.pointer (some ⟨w.heap.size,0,none⟩))) (fp':=aO fp (d,0) [w.heap.size]) (bad':=av σ) (ax h1 hb) (fun k hk=> ?_) (fun b hb=>⟨hb,lc w _ (h.hJ b hb)⟩)
  ·rcases h3 with h3|h3
   ·rw[hb] at h3;cases h3
   ·exact⟨h1.1,.inr h3⟩
  ·have a_:k≠(d,0):=fun e=>eK (e▸gi y Ot k hk)
   refine⟨la a_,?_⟩
   cases cq:av σ k with
   |true=>exact .inl rfl
   |false=>
    refine .inr ⟨rfl,la a_,fun b aj=> ?_⟩
    unfold av at cq
    simp only[vr] at cq
    cases he:σ.aq k with
    |none=>rw[he] at cq;simp at cq
    |some e=>exact lc w _ (nU h he aj)
 refine gq cu (hn F (aO kv (d,0) (.pointer (some ⟨w.heap.size,0,none⟩))) (aO fp (d,0) [w.heap.size]) _ _ (h.mG (w':=w.alloc (.cells vs.toArray t)) ho hd _ _ [] _ (.pointer (some ⟨w.heap.size,0,none⟩)) _ _ eK ?_ ?_ ?_ ?_ ?_ ?_ ?_ ?_))
 ·intro bad
  exact b8 ⟨⟨rfl,trivial⟩,.inr ⟨w.heap.size,gV,rfl⟩⟩
 ·intro bad
  exact⟨w.heap.size,vs.toArray,t,rfl,heap_alloc_new w _,rfl,by simpa using An bad⟩
 ·intro b hb;exact⟨hb,lc w _ (h.hJ b hb)⟩
 ·intro b hb;exact .inl hb
 ·intro k e _ he b hb;exact lc w _ (nU h he hb)
 ·simp
 ·intro b hb
  rw[gj.1 hb]
  exact⟨fun hF=>by have:=h.hJ _ hF;omega,.inr ⟨nl _,by simp⟩⟩
 ·exact bH.alloc _ _ _
theorem yO{o:Oper}{q:Operand}{sx:SV U}{ad:Addr}(ho:o.op=.nilCheck q)(hx:RS E w F kv fp bad sx (a.eval q))(hp:a.eval q=.pointer (some ad)):aB E F kv fp bad a w o sx:=
 ⟨a.eval q,by unfold execOp;simp only[ho,hp];rfl,hx⟩
theorem Ix{o:Oper}{s d:TypeId}{q:Operand}{sx:SV U}{k k0 k':IntKind}{n:Int}(ho:o.op=.convert s d q)(hx:RS E w F kv fp bad sx (a.eval q))(hl:cr sx=some (.int k' n))
  (hd:E.P.underlying d=some (.int k)) (hs:E.P.underlying s=some (.int k0)):aB E F kv fp bad a w o (iR (.int k (k.wrap n))):=by
 refine⟨.int k (k.wrap n),?_,ee ⟨rfl,wrap_within _ _⟩⟩
 unfold execOp;simp only[ho,fq hx hl]
 refine cd ?_
 simp[convert,run_underlying hs,run_underlying hd,Conv.intToInt]
theorem IG{P:Program}{w:World}(ad:Addr):(loadCells ad 0).run P w=.ok #[] w:=by
 have:=run_loadCells_list (P:=P) w ad [] (fun j v hj=>by simp at hj)
 simpa using this
theorem DS{P:Program}{w:World}{s d e:TypeId}(hs:P.underlying s=some (.slice e))(he:P.underlying e=some (.int .u8))(hd:P.underlying d=some .string)(ad:Option Addr)(c:Nat):
  (convert s d (.slice ad 0 c)).run P w=.ok (.string ByteArray.empty) w:=by
 cases ad with
 |none=>exact run_convert_bytes_nil w s e hs he 0 c d hd
 |some ad=>
  rw[run_convert_bytes_string w s d e _ 0 c hs he hd,run_bytesToString w ad 0 c [] (IG ad)]
  rfl
theorem Iy{o:Oper}{s d e:TypeId}{q:Operand}{xs:List (U.T U.eM)}(ho:o.op=.convert s d q)(hx:Rp E w F false (.sl U.eM xs) (a.eval q) [])
  (hs:E.P.underlying s=some (.slice e)) (he:E.P.underlying e=some (.int .u8)) (hd:E.P.underlying d=some .string) {kv:Key->Value} {fp:Key->List Nat} {F':Nat->Prop}:aB E F' kv fp bad a w o (iR (.string (strOfNums (xs.map U.xp)))):=by
 refine⟨.string (strOfNums (xs.map U.xp)),?_,ee (v:=.string _) ⟨rfl,by simp only[strOfNums_size,tj];exact hx.len⟩⟩
 unfold execOp;simp only[ho]
 refine cd ?_
 rcases hx.inv with⟨h0,ad,c,hv⟩|⟨b,off,cap,vs,hv,_,jR,hc,hr⟩
 ·rw[hv,h0,DS hs he hd]
  rfl
 ·rw[hv]
  have hw:U.wd U.eM=1:=by
   cases xs with
   |nil=>rw[<-U.aM U.eM (U.bn U.eM),U.nG];rfl
   |cons x xs=>rw[<-U.aM U.eM x,U.nG];rfl
  refine run_convert_bytes_arg w s e hs he b off xs.length cap (xs.map U.xp) (by simp) (fun i hi=> ?_) d hd
  rw[hc i (by rw[hw];omega)]
  have iS:=cE hi
  have cK:=hr i xs[i] 0 (.lit (.int .u8 (U.xp xs[i]))) iS (by rw[U.nG];rfl)
  rw[hw,Nat.mul_one,pn] at cK
  obtain⟨_,Gm,_⟩:=cK.dy
  rw[Gm]
  simp[hi]
end AM
