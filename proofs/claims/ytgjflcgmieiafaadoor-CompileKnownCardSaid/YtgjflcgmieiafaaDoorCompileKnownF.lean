/- CompileKnown answers true: the document's examples of tables, their codes, sizes, faults and verdicts are as it says. Conditions: those of the given row and its card (the variable insn.sizes is laid as its initialiser says). -/
import Derived.Test.YtgjflcgmieiafaaDoorCards
import Derived.Test.YtgjflcgmieiafaaDoorTie
import Derived.Test.YtgjflcgmieiafaaDoorK06
import Derived.WalkKit
import Derived.ProofKit
import Derived.OpenShut
import Derived.Deep.DeepHandedRow
import Derived.Lib.LaidTab
set_option linter.all false
set_option linter.unusedVariables false
set_option linter.unusedSimpArgs false
namespace Go.Proofs.YtgjflcgmieiafaaDoor.compileKnown
open Go.ChangeShapes Go.WideShapes Go.ChangeAt Go.RowKit Go.DI Go.DI.Kit Go.Cmp
set_option maxRecDepth 100000
theorem own:ownKnob Tryd.prog.godebug=none:=by kernel_rfl
theorem laidOut:laidOutB Tryd.prog=true:=by kernel_rfl
theorem gTab:Tryd.prog.globalNamed "stockade/insn.sizes" =some 0:=by kernel_rfl
theorem gTabType:(Tryd.prog.globals[0]?).map (·.type)=some 160:=by kernel_rfl
theorem cells160:Tryd.prog.cellsOf 160=4:=by kernel_rfl
theorem cells3:Tryd.prog.cellsOf 3=1:=by kernel_rfl
theorem table{W:World}(h:laidMetH Tryd.prog Rows.compileKnownRow.laid W):Lib.TabIs Tryd.prog W "stockade/insn.sizes" .i64 [4,2,1,8]:=
 Lib.tabIs_of_head (rest:= []) gTab gTabType Tryd.underlying160 Tryd.underlying3 cells3 cells160 h
theorem contract(H:Type)(enc:TypeId×Value->H)(W:World)(args:Array Value)(ds gs:List (DataW H))(before:List MemPlace)
  (hW:DataW.Whole enc Tryd.prog Tryd.f3.params.toList Rows.compileKnownSpec.vars false W args.toList ds gs before) (hL:laidMetH Tryd.prog Rows.compileKnownRow.laid W):
  Calls Tryd.prog 3 args W λe W'=>∃v,e= .returned v/\Rows.compileKnownSpec.post enc Tryd.prog Tryd.f3 false true false false W args v W':=by
 have hW':=hW
 obtain⟨p,q,hA0,hV,rfl,hfz,hnd⟩:=hW
 have hA:DataW.TrodAll enc Tryd.prog W 0 (λ_=>true) true Tryd.f3.params.toList args.toList ds p:=hA0
 rw[Tryd.params3]at hA
 obtain⟨rfl,rfl⟩:=trodVars_none hV
 have hA1:DataW.TrodAll enc Tryd.prog W 0 (λ_=>true) true [] args.toList ds p:=hA
 have hB:=QV hA1
 have c0:W.cell? ⟨0,0,none⟩=some (.int .i64 4):=(table hL).cell gTab 0 (by decide)
 have c1:W.cell? ⟨0,1,none⟩=some (.int .i64 2):=(table hL).cell gTab 1 (by decide)
 have c2:W.cell? ⟨0,2,none⟩=some (.int .i64 1):=(table hL).cell gTab 2 (by decide)
 have c3:W.cell? ⟨0,3,none⟩=some (.int .i64 8):=(table hL).cell gTab 3 (by decide)
 obtain⟨_,rc,e,fr,hh,k0⟩:=Gt c0
 obtain⟨_,rc1,e1,fr1,hh1,k1⟩:=Gt c1
 obtain⟨_,rc2,e2,fr2,hh2,k2⟩:=Gt c2
 obtain⟨_,rc3,e3,fr3,hh3,k3⟩:=Gt c3
 have hh1:W.heap[0]?=some (.cells rc1 e1 fr1):=hh1
 have hh2:W.heap[0]?=some (.cells rc2 e2 fr2):=hh2
 have hh3:W.heap[0]?=some (.cells rc3 e3 fr3):=hh3
 have hh:W.heap[0]?=some (.cells rc e fr):=hh
 rw[hh]at hh1 hh2 hh3
 cases hh1;cases hh2;cases hh3
 have hlen:4<=rc.size:=(Array.getElem?_eq_some_iff.1 k3).1
 have hst:=R0.start1 (gl:=gl) hh hlen (λi v hv=>by
  rcases i with _|_|_|_|i
  ·cases hv;exact⟨k0,λ_=> .int _ _⟩
  ·cases hv;exact⟨k1,λ_=> .int _ _⟩
  ·cases hv;exact⟨k2,λ_=> .int _ _⟩
  ·cases hv;exact⟨k3,λ_=> .int _ _⟩
  ·cases hv)
 have hargs:args= #[]:=by
  obtain⟨h1,_,_⟩:=trodAll_nil hA1;exact Array.toList_eq_nil_iff.1 h1
 have hC:=WN (m:=mG gl) ⟨mG_top gl,Nat.le_of_eq (mG_size gl).symm,mG_get gl⟩ hst.rel hst.fresh
 rw[←hargs]at hC
 refine hC.mono λe W' ⟨he,bel⟩=>?_
 subst he
 have hA2:=IU laidOut (by rfl) hA1 bel hB
 obtain⟨_,rfl,rfl⟩:=trodAll_nil hA1
 clear hA0
 exact⟨_,rfl,_,_,_,[],_,[],hW',trodAll_mk1 (shut_bool Tryd.underlying4 _),hA2,rfl,bel.frame _,λh=>by cases h⟩
noncomputable def laidWorld(os:Os):World:=
 {World.holding Tryd.prog os ⟨#[],#[],[]⟩with heap:=(World.holding Tryd.prog os ⟨#[],#[],[]⟩).heap.modify 0 fun
   | .cells _ t frozen=> .cells #[.int .i64 4, .int .i64 2, .int .i64 1, .int .i64 8] t frozen
   |o=>o}
theorem laid_met(os:Os):laidMet Tryd.prog Rows.compileKnownRow.laid ((laidWorld os).forCall (λ_ _=>0) ⟨#[],#[],[]⟩).memory:=
 laidMet_of_run' 8 (by kernel_rfl) (by kernel_rfl)
theorem reads(os:Os){H:Type}(enc:TypeId×Value->H):∃places,DataW.whole enc Tryd.prog ((laidWorld os).forCall (λ_ _=>0) ⟨#[],#[],[]⟩).memory Tryd.f3.params.toList Rows.compileKnownSpec.vars false (#[]:Array Value).toList 8=some ([],[],places):=
 ⟨[],by kernel_rfl⟩
theorem lifted(os:Os)(started:os.Started)(H:Type)(enc:TypeId×Value->H)(F:Stop.Interp):
  ReturnsInHanded {} Tryd.checked os 3 .any ((OpenSpec.ofChange Rows.compileKnownSpec).preRow enc Tryd.prog Tryd.f3 Rows.compileKnownRow.domain false Rows.compileKnownRow.laid) (((OpenSpec.ofChange Rows.compileKnownSpec).at F).post enc Tryd.prog Tryd.f3 false true false false):=by
 obtain⟨places,hx⟩:=reads os enc
 refine returnsInHanded_of_row (C:=Tryd.checked) (s:=OpenSpec.ofChange Rows.compileKnownSpec) own started (by kernel_rfl) Tryd.func3
  (witness_row_at (enc:=enc) (C:=Tryd.checked) false (laidWorld os) #[] rfl (by kernel_rfl) (by kernel_rfl) (by kernel_rfl)
   (OpenSpec.preRow_of_cond 8 hx (by kernel_rfl) (λk hk=>by cases hk) (by kernel_rfl) (laid_met os))) ?_
 intro W base args ds gs before hval hW _ _ hwt hL _ _
 exact contract H enc W args ds gs before hW hL
theorem said:Rows.CompileKnownSaid:=
 OpenClaim.holds_of_cond 3 Tryd.f3 rfl rfl rfl rfl rfl rfl rfl ⟨rfl,rfl,rfl,rfl,rfl⟩ rfl rfl rfl rfl rfl (by kernel_rfl) Tryd.func3 (by kernel_rfl)
  (of_decide_eq_true (by kernel_rfl)) (by unfold Func.isWrapper;first|(rw[if_pos (by decide+kernel)];kernel_rfl)|(rw[if_neg (by decide+kernel)];exact⟨rfl,rfl⟩))
  (λos started H enc _ F=>by rw[OpenClaim.pre_eq_preRow];exact lifted os started H enc F)
theorem plain(f:FuncId)(fn:Func)(hf:Tryd.pinned.checked.prog.funcNamed "stockade/stockadelaw19.CompileKnown" =some f)(hfn:Tryd.pinned.checked.prog.funcs[f]?=some fn):
  false=Tryd.pinned.checked.prog.looks []/\∀(j:Nat) t,fn.params[j]?=some t->Tryd.pinned.checked.prog.wantsStandIn t=false:=by
 obtain rfl:f=3:=Option.some.inj ((show Tryd.prog.funcNamed "stockade/stockadelaw19.CompileKnown" =some 3 by kernel_rfl).symm.trans hf)|>.symm
 obtain rfl:fn=Tryd.f3:=(Option.some.inj (Tryd.func3.symm.trans hfn)).symm
 refine⟨by kernel_rfl,λj t ht=>?_⟩
 rw[Tryd.params3]at ht
 simp at ht
theorem card:Rows.CompileKnownCardSaid:=
 Claim7.holds_tied_plain_at .later [] _ _ _ _ said (λ_ h=>by cases h) (by kernel_rfl) (λ_ h=>by cases h) compileKnown_row_tie rfl ⟨rfl,rfl⟩ (by kernel_rfl) rfl plain (by kernel_rfl)
#print axioms card
end Go.Proofs.YtgjflcgmieiafaaDoor.compileKnown
