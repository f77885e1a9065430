/- FnExactReplyInst holds. No condition. -/
import Derived.Test.YtmkiahpojiomiaaGreatDoorAmGood
import Derived.Test.YtmkiahpojiomiaaGreatDoorFExactReplyInst4
import Derived.Stop.LaidErr
import Derived.Test.YtmkiahpojiomiaaGreatDoorCards
import Derived.Test.YtmkiahpojiomiaaGreatDoorTie
open Go.Proofs.Tryz Go.Proofs.YtmkiahpojiomiaaGreatDoor.Rows
namespace Go.Proofs.YtmkiahpojiomiaaGreatDoor.fnExactReplyInst
open Go.ChangeShapes Go.WideShapes Go.ChangeAt Go.RowKit
set_option linter.unusedVariables false
set_option maxRecDepth 100000
noncomputable def laidWorld(os:Os):World:=
 {World.holding prog os ⟨#[], #[],[]⟩ with heap:=((((World.holding prog os ⟨#[], #[],[]⟩).heap.modify 1 fun
   | .cells _ t frozen=> .cells (Lib.pow10Tab.map fun z=>Value.int .u64 z).toArray t frozen
   |o=>o).modify 2 fun
   | .cells _ t frozen=> .cells (([0,1,28,2,29,14,24,3,30,22,20,15,25,17,4,8,31,27,13,23,21,19,16,7,26,12,18,6,11,5,10,9]:List Int).map fun z=>Value.int .u8 z).toArray t frozen
   |o=>o).modify 3 fun
   | .cells _ t frozen=> .cells (([0,1,56,2,57,49,28,3,61,58,42,50,38,29,17,4,62,47,59,36,45,43,51,22,53,39,33,30,24,18,12,5,63,55,48,27,60,41,37,16,46,35,44,21,52,32,23,11,54,26,40,15,34,20,31,10,25,14,19,9,13,8,7,6]:List Int).map fun z=>Value.int .u8 z).toArray t frozen
   |o=>o)}
theorem laid_met(os:Os)(args:Array Value):laidMetH prog fnExactReplyInstRow.laid ((laidWorld os).forCall (fun _ _=>0) ⟨#[],args,[]⟩).memory:=by
 rw[Go.MakeChecks.laidMetH_plain _ _ _ (by kernel_rfl)]
 exact laidMet_of_run' 8 (by kernel_rfl) (by kernel_rfl)
open AM in
theorem lay_of{W:World}(h:laidMetH prog fnExactReplyInstRow.laid W):Lay EE W (·<W.heap.size):=by
 rw[Go.MakeChecks.laidMetH_plain _ _ _ (by kernel_rfl)] at h
 have h1:laidMet prog [("internal/strconv.uint64pow10",Lib.tabData .u64 Lib.pow10Tab)] W:=h.tail.tail
 have h2:=Lib.tabIs_of_head (P:=prog) (g:=1) (t:=339) (e:=332) (n:=20) (by kernel_rfl) (by kernel_rfl) (by kernel_rfl) (by kernel_rfl) (by kernel_rfl) (by kernel_rfl) h1
 intro p hp
 obtain rfl:=List.mem_singleton.1 hp
 have hg:prog.globalNamed "internal/strconv.uint64pow10" =some 1:=by kernel_rfl
 simp only[Go.Lib.TabIs,World.var?,hg,Option.bind_some] at h2
 split at h2
 ·rename_i cs e r hh
  cases h2
  refine⟨?_,_,_,hh⟩
  rcases Nat.lt_or_ge 1 W.heap.size with h'|h'
  ·exact h'
  ·rw[Array.getElem?_eq_none h'] at hh;cases hh
 ·cases h2
open AM in
theorem lifted(os:Os)(started:os.Started)(H:Type)(enc:TypeId×Value→H):
  ReturnsInHanded {} checked os 3 .any (fun w args=>(fnExactReplyInstSpec.pre enc prog f3 fnExactReplyInstRow.domain false w args∧laidMetH prog fnExactReplyInstRow.laid w)∧sizedMet enc prog f3 (OpenSpec.ofChange fnExactReplyInstSpec) false w args) (fnExactReplyInstSpec.post enc prog f3 false true false false):=by
 refine returnsInHanded_of_change_and (C:=checked) (X:=fun w _=>laidMetH prog fnExactReplyInstRow.laid w) (fun _ _ _ hh h=>h.of_heap hh) own started (by kernel_rfl) func3
  (ChangeSpec.witness_at (enc:=enc) (C:=checked) (os:=os) (X:=fun w _=>laidMetH prog fnExactReplyInstRow.laid w) false (laidWorld os) #[.agg #[.string ⟨#[]⟩,.slice none 0 0],.agg #[.slice none 0 0,.int .i64 0,.slice none 0 0,.slice none 0 0,.slice none 0 0,.slice none 0 0,.int .i64 0,.int .i64 0],.string ⟨#[]⟩,.bool false,.agg #[.int .i64 0,.int .i64 0,.string ⟨#[]⟩]] 8 rfl (by kernel_rfl) (by kernel_rfl) (by kernel_rfl) (by kernel_rfl) (by kernel_rfl) (laid_met os _)) ?_
 intro W base args ds gs before hval0 hW _ _ hL _
 have hval:∀(j:Nat) t v,f3.params[j]? =some t→args[j]? =some v→Value.okWide prog W .any base t v:=hval0
 have hW':=hW
 obtain⟨p,q,hA0,hV,rfl,hfz,hnd⟩:=hW
 have hA:DataW.TrodAll enc prog W 0 (fun _=>true) true f3.params.toList args.toList ds p:=hA0
 rw[params3] at hA hval
 obtain⟨v0,vs0,d0,ds0,p0,q0,hargs,rfl,rfl,h0,r0⟩:=trodAll_cons hA
 obtain⟨v1,vs1,d1,ds1,p1,q1,rfl,rfl,rfl,h1,r1⟩:=trodAll_cons r0
 obtain⟨v2,vs2,d2,ds2,p2,q2,rfl,rfl,rfl,h2,r2⟩:=trodAll_cons r1
 obtain⟨v3,vs3,d3,ds3,p3,q3,rfl,rfl,rfl,h3,r3⟩:=trodAll_cons r2
 obtain⟨v4,vs4,d4,ds4,p4,q4,rfl,rfl,rfl,h4,r4⟩:=trodAll_cons r3
 obtain⟨rfl,rfl,rfl⟩:=trodAll_nil r4
 obtain rfl:args= #[v0,v1,v2,v3,v4]:=by cases args;simp_all
 obtain⟨rfl,rfl⟩:=trodVars_none hV
 obtain⟨x0,g0⟩:=arg_st (τ:=.lDef) (E:=EE) kgood underlying24 rfl (hval 0 24 v0 rfl rfl) h0
 obtain⟨x1,g1⟩:=arg_st (τ:=.lInst) (E:=EE) kgood underlying33 rfl (hval 1 33 v1 rfl rfl) h1
 obtain⟨x2,g2⟩:=arg_str (E:=EE) kgood underlying9 (hval 2 9 v2 rfl rfl) h2
 obtain⟨x3,g3⟩:=arg_bool (E:=EE) kgood underlying4 (hval 3 4 v3 rfl rfl) h3
 obtain⟨x4,g4⟩:=arg_st (τ:=.lVal) (E:=EE) kgood underlying35 rfl (hval 4 35 v4 rfl rfl) h4
 refine(calls_ro (E:=EE) (lay_of hL) (ok_laws_FnExactReplyInst).2 (x:=(x0,x1,x2,x3,x4)) (by simp[con_laws_FnExactReplyInst]) (vs:=[v0,v1,v2,v3,v4]) (ls:=[[],[],[],[],[]]) ⟨g0,⟨g1,⟨g2,⟨g3,⟨g4,trivial⟩⟩⟩⟩⟩ rfl rfl).mono fun e W' ⟨he,hup⟩=> ?_
 subst he
 exact⟨_,rfl,law_post (b:=4) hW' rfl hup laid mapped sized (of_decide_eq_true (by kernel_rfl)) rfl underlying4 rfl⟩
theorem j_inPlace:(fnExactReplyInstRow.inPlace==Tryz.pinned.checked.prog.inPlace 3)=true:=by kernel_rfl
theorem j_unfollowed:(fnExactReplyInstRow.unfollowed==Tryz.pinned.checked.prog.unfollowed 3)=true:=by kernel_rfl
theorem j_recurses:(fnExactReplyInstRow.recurses==Tryz.pinned.checked.prog.recurses 3)=true:=by kernel_rfl
theorem j_named:(fnExactReplyInstRow.named==Tryz.pinned.checked.prog.varsNamed 3)=true:=by kernel_rfl
theorem j_lifted0:(fnExactReplyInstRow.lifted==Tryz.pinned.checked.prog.liftsFinal)=true:=by kernel_rfl
theorem j_heard:Tryz.pinned.checked.prog.stopsHeard=true:=by kernel_rfl
theorem closed:joinedFacts Tryz.pinned.checked.prog 3 f3 fnExactReplyInstSpec fnExactReplyInstRow=true:=by
 unfold joinedFacts
 rw[j_inPlace,j_unfollowed,j_recurses,j_named,j_lifted0,j_heard]
 kernel_rfl
theorem over:fnExactReplyInstRow.holds Tryz.pinned (OpenSpec.ofChange fnExactReplyInstSpec):=
 OpenClaim.holds_of_wide 3 f3 rfl rfl rfl rfl rfl rfl rfl ⟨rfl,rfl,rfl,rfl,rfl⟩ rfl rfl rfl rfl rfl (by kernel_rfl) func3 closed
  (of_decide_eq_true (by kernel_rfl)) (by unfold Func.isWrapper;first|(rw[if_pos (by decide+kernel)];kernel_rfl)|(rw[if_neg (by decide+kernel)];exact⟨rfl,rfl⟩))
  (fun os started H enc _=>lifted os started H enc)
theorem proved:FnExactReplyInstCardSaid:=
 Claim7.holds_tied_plain_at .later [] [.data,.data,.data] true (true, "8f79fd80d9001fc0d105a96c8c907d7b2e88b004fe50135194e220b034109527") false
  over (fun _ h=>by cases h) (by kernel_rfl) (fun _ h=>by cases h) fnExactReplyInst_row_tie rfl ⟨rfl,rfl⟩ (by kernel_rfl) rfl
  (fun f fn hf hfn=>by
   obtain rfl:f=3:=Option.some.inj ((show prog.funcNamed "loop.example/g00282/laws.FnExactReplyInst" =some 3 by kernel_rfl).symm.trans hf)|>.symm
   obtain rfl:fn=f3:=(Option.some.inj (func3.symm.trans hfn)).symm
   exact⟨by kernel_rfl,fun j t ht=>by
    rw[params3] at ht
    have h3:t∈[24,33,9,4,35]:=by
     have:=Array.mem_of_getElem? ht
     simpa using this
    have ha:([24,33,9,4,35]:List Nat).all (fun t=> !prog.wantsStandIn t)=true:=by kernel_rfl
    have h4:=List.all_eq_true.1 ha _ h3
    have h5:prog.wantsStandIn t=false:=by simpa using h4
    exact h5⟩)
  (by kernel_rfl)
end Go.Proofs.YtmkiahpojiomiaaGreatDoor.fnExactReplyInst
