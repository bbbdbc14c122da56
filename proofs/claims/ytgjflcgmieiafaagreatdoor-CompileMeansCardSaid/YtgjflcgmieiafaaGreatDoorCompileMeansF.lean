/- CompileMeans answers true: the code of any table, run with any packet by any port, says what the table says. Conditions: those of the given row and its card (the variable insn.sizes is laid as its initialiser says). -/
import Derived.Test.YtgjflcgmieiafaaGreatDoorCards
import Derived.Test.YtgjflcgmieiafaaGreatDoorTie
import Derived.Test.YtgjflcgmieiafaaGreatDoorM07
import Derived.WalkKit
import Derived.ProofKit
import Derived.OpenShut
import Derived.Deep.DeepHandedRow
import Derived.Lib.LaidTab
set_option linter.all false
set_option linter.unusedVariables false
set_option linter.unusedSimpArgs false
namespace Go.Proofs.YtgjflcgmieiafaaGreatDoor.compileMeans
open Go.ChangeShapes Go.WideShapes Go.ChangeAt Go.RowKit Go.DI Go.DI.Kit Go.Cmp
set_option maxRecDepth 100000
theorem own:ownKnob Tryz.prog.godebug=none:=by kernel_rfl
theorem laidOut:laidOutB Tryz.prog=true:=by kernel_rfl
theorem dataOk:(([26]:List TypeId).all λt=>Ho Tryz.prog 9 t)=true:=by kernel_rfl
theorem readOk:(([26]:List TypeId).all λt=>Tryz.prog.readableRec t && decide (t<Tryz.prog.types.size))=true:=by kernel_rfl
theorem gTab:Tryz.prog.globalNamed "stockade/insn.sizes" =some 0:=by kernel_rfl
theorem gTabType:(Tryz.prog.globals[0]?).map (·.type)=some 183:=by kernel_rfl
theorem cells183:Tryz.prog.cellsOf 183=4:=by kernel_rfl
theorem cells3:Tryz.prog.cellsOf 3=1:=by kernel_rfl
theorem table{W:World}(h:laidMetH Tryz.prog Rows.compileMeansRow.laid W):Lib.TabIs Tryz.prog W "stockade/insn.sizes" .i64 [4,2,1,8]:=
 Lib.tabIs_of_head (rest:= []) gTab gTabType Tryz.underlying183 Tryz.underlying3 cells3 cells183 h
theorem run{H:Type}{m:Mem}{l:List Dt}{vs:List Value}{ds:List (DataW H)}{B0:Nat}(ht:m.top)(hs:1<=m.size)(h0:m.get 0= .cells false gl)(ha:Mt Tryz.prog 9 m [26] l vs)
  (hd:l.length=ds.length/\∀(i:Nat) (x:Dt) (y:DataW H),l[i]?=some x->ds[i]?=some y->JV x y) {vt:List TypeId} (hw:∀w∈DataW.weightsEach Tryz.prog (26::vt) ds,w<=reachBytes):∃R:Ed,CU Tryz.prog B0 1 R/\∃m',R 4 vs m=some (.bool true,m'):=by
 obtain⟨d,v,rfl,rfl,h1,h2⟩:=tq ha
 obtain⟨d0,d1,d2,v0,pv,pk,port,rfl,rfl,t0,a0,g4,g5,g6,g7⟩:=X1 h0 h1 h2
 obtain⟨rs,g0,g1,_,g2,g3⟩:=XZ t0 a0
 obtain⟨y,hy⟩:∃y,ds= [y]:=by
  match ds,hd.1 with
  | [y],_=>exact⟨y,rfl⟩
 subst hy
 have hwl:=OX (hd.2 0 _ y rfl rfl) λw hw'=>hw w (by rw[DataW.weightsEach];exact List.mem_append_left _ hw')
 have hT:=oD g0 g1 g3 hwl (Nat.le_refl _)
 exact⟨Co Tryz.prog kp 1 (uO (2000000+rs.length+(rs.map λr=>r.tests.length).sum)) 600,HL Bw hK Ee (Cr Bw hK Ee (uP _ B0) (Ts _) 20) (CL (Ts _) 20) 600,Rc ⟨ht,hs,h0⟩ hT g2 g4 g5 ⟨g6,g7⟩⟩
theorem contract(H:Type)(enc:TypeId×Value->H)(W:World)(base:Nat)(args:Array Value)(ds gs:List (DataW H))(before:List MemPlace)
  (hval0:∀(j:Nat) t v,Tryz.f4.params[j]?=some t->args[j]?=some v->Value.okWide Tryz.prog W .any base t v)
  (hW:DataW.Whole enc Tryz.prog Tryz.f4.params.toList Rows.compileMeansSpec.vars false W args.toList ds gs before) {vt:List TypeId} (hwt:(DataW.weightsEach Tryz.prog (Tryz.f4.params.toList++vt) (ds++gs)).all (· <=reachBytes)=true) (hL:laidMetH Tryz.prog Rows.compileMeansRow.laid W):
  Calls Tryz.prog 4 args W λe W'=>∃v,e= .returned v/\Rows.compileMeansSpec.post enc Tryz.prog Tryz.f4 false true false false W args v W':=by
 have hval:∀(j:Nat) t v,Tryz.f4.params[j]?=some t->args[j]?=some v->Value.okWide Tryz.prog W .any base t v:=hval0
 have hW':=hW
 obtain⟨p,q,hA0,hV,rfl,hfz,hnd⟩:=hW
 have hA:DataW.TrodAll enc Tryz.prog W 0 (λ_=>true) true Tryz.f4.params.toList args.toList ds p:=hA0
 rw[Tryz.params4]at hA hval
 obtain⟨rfl,rfl⟩:=trodVars_none hV
 have hA1:DataW.TrodAll enc Tryz.prog W 0 (λ_=>true) true [26] args.toList ds p:=hA
 have hB:=Rd hA1
 have c0:W.cell? ⟨0,0,none⟩=some (.int .i64 4):=(table hL).cell gTab 0 (by decide)
 have c1:W.cell? ⟨0,1,none⟩=some (.int .i64 2):=(table hL).cell gTab 1 (by decide)
 have c2:W.cell? ⟨0,2,none⟩=some (.int .i64 1):=(table hL).cell gTab 2 (by decide)
 have c3:W.cell? ⟨0,3,none⟩=some (.int .i64 8):=(table hL).cell gTab 3 (by decide)
 obtain⟨_,rc,e,fr,hh,k0⟩:=EW c0
 obtain⟨_,rc1,e1,fr1,hh1,k1⟩:=EW c1
 obtain⟨_,rc2,e2,fr2,hh2,k2⟩:=EW c2
 obtain⟨_,rc3,e3,fr3,hh3,k3⟩:=EW c3
 have hh1:W.heap[0]?=some (.cells rc1 e1 fr1):=hh1
 have hh2:W.heap[0]?=some (.cells rc2 e2 fr2):=hh2
 have hh3:W.heap[0]?=some (.cells rc3 e3 fr3):=hh3
 have hh:W.heap[0]?=some (.cells rc e fr):=hh
 rw[hh]at hh1 hh2 hh3
 cases hh1;cases hh2;cases hh3
 have hlen:4<=rc.size:=(Array.getElem?_eq_some_iff.1 k3).1
 have hst:=R0.start1 (gl:=gl) hh hlen (λi v hv=>by
  rcases i with _|_|_|_|i
  ·cases hv;exact⟨k0,λ_=> .int _ _⟩
  ·cases hv;exact⟨k1,λ_=> .int _ _⟩
  ·cases hv;exact⟨k2,λ_=> .int _ _⟩
  ·cases hv;exact⟨k3,λ_=> .int _ _⟩
  ·cases hv)
 have hC:=Re hst dataOk hA1 (λj t v ht hv=>hval j t v (by simpa using ht) hv) hB (λm l vs ht hms hmg h hdr=>
  run (vt:=vt) ht hms ((hmg 0 (by rw[mG_size];omega)).trans (mG_get gl)) h hdr (by
   rw[Tryz.params4,List.append_nil]at hwt;intro w hw;exact of_decide_eq_true (List.all_eq_true.1 hwt w hw)))
 refine hC.mono λe W' ⟨he,bel⟩=>?_
 subst he
 have hA2:=JK laidOut readOk hA1 bel hB
 obtain⟨v0,vs0,d0,ds0,p0,q0,hargs,rfl,rfl,h0,r0⟩:=trodAll_cons hA1
 obtain⟨rfl,rfl,rfl⟩:=trodAll_nil r0
 clear hA0 hval0
 exact⟨_,rfl,_,_,_,[],_,[],hW',trodAll_mk1 (shut_bool Tryz.underlying4 _),hA2,rfl,bel.frame _,λh=>by cases h⟩
noncomputable def laidWorld(os:Os):World:=
 {World.holding Tryz.prog os ⟨#[],#[],[]⟩with heap:=(World.holding Tryz.prog os ⟨#[],#[],[]⟩).heap.modify 0 fun
   | .cells _ t frozen=> .cells #[.int .i64 4, .int .i64 2, .int .i64 1, .int .i64 8] t frozen
   |o=>o}
theorem laid_met(os:Os):laidMet Tryz.prog Rows.compileMeansRow.laid ((laidWorld os).forCall (λ_ _=>0) ⟨#[],#[.agg #[.slice none 0 0, .slice none 0 0, .int .u32 0]],[]⟩).memory:=
 laidMet_of_run' 8 (by kernel_rfl) (by kernel_rfl)
theorem reads(os:Os){H:Type}(enc:TypeId×Value->H):∃places,DataW.whole enc Tryz.prog ((laidWorld os).forCall (λ_ _=>0) ⟨#[],#[.agg #[.slice none 0 0, .slice none 0 0, .int .u32 0]],[]⟩).memory Tryz.f4.params.toList Rows.compileMeansSpec.vars false #[Value.agg #[.slice none 0 0, .slice none 0 0, .int .u32 0]].toList 8=some ([.agg [.nil, .nil, .lit (.int .u32 0)]],[],places):=
 ⟨[],by kernel_rfl⟩
theorem lifted(os:Os)(started:os.Started)(H:Type)(enc:TypeId×Value->H)(F:Stop.Interp):
  ReturnsInHanded {} Tryz.checked os 4 .any ((OpenSpec.ofChange Rows.compileMeansSpec).preRow enc Tryz.prog Tryz.f4 Rows.compileMeansRow.domain false Rows.compileMeansRow.laid) (((OpenSpec.ofChange Rows.compileMeansSpec).at F).post enc Tryz.prog Tryz.f4 false true false false):=by
 obtain⟨places,hx⟩:=reads os enc
 refine returnsInHanded_of_row (C:=Tryz.checked) (s:=OpenSpec.ofChange Rows.compileMeansSpec) own started (by kernel_rfl) Tryz.func4
  (witness_row_at (enc:=enc) (C:=Tryz.checked) false (laidWorld os) #[.agg #[.slice none 0 0, .slice none 0 0, .int .u32 0]] rfl (by kernel_rfl) (by kernel_rfl) (by kernel_rfl)
   (OpenSpec.preRow_of_cond 8 hx (by kernel_rfl) (λk hk=>by cases hk) (by kernel_rfl) (laid_met os))) ?_
 intro W base args ds gs before hval hW _ _ hwt hL _ _
 exact contract H enc W base args ds gs before hval hW hwt hL
theorem said:Rows.CompileMeansSaid:=
 OpenClaim.holds_of_cond 4 Tryz.f4 rfl rfl rfl rfl rfl rfl rfl ⟨rfl,rfl,rfl,rfl,rfl⟩ rfl rfl rfl rfl rfl (by kernel_rfl) Tryz.func4 (by kernel_rfl)
  (of_decide_eq_true (by kernel_rfl)) (by unfold Func.isWrapper;first|(rw[if_pos (by decide+kernel)];kernel_rfl)|(rw[if_neg (by decide+kernel)];exact⟨rfl,rfl⟩))
  (λos started H enc _ F=>by rw[OpenClaim.pre_eq_preRow];exact lifted os started H enc F)
theorem plain(f:FuncId)(fn:Func)(hf:Tryz.pinned.checked.prog.funcNamed "stockade/stockadelaw19.CompileMeans" =some f)(hfn:Tryz.pinned.checked.prog.funcs[f]?=some fn):
  false=Tryz.pinned.checked.prog.looks []/\∀(j:Nat) t,fn.params[j]?=some t->Tryz.pinned.checked.prog.wantsStandIn t=false:=by
 obtain rfl:f=4:=Option.some.inj ((show Tryz.prog.funcNamed "stockade/stockadelaw19.CompileMeans" =some 4 by kernel_rfl).symm.trans hf)|>.symm
 obtain rfl:fn=Tryz.f4:=(Option.some.inj (Tryz.func4.symm.trans hfn)).symm
 refine⟨by kernel_rfl,λj t ht=>?_⟩
 rw[Tryz.params4]at ht
 obtain rfl:t=26:=by simpa using Array.mem_of_getElem? ht
 exact(show Tryz.prog.wantsStandIn 26=false by kernel_rfl)
theorem card:Rows.CompileMeansCardSaid:=
 Claim7.holds_tied_plain_at .later [] _ _ _ _ said (λ_ h=>by cases h) (by kernel_rfl) (λ_ h=>by cases h) compileMeans_row_tie rfl ⟨rfl,rfl⟩ (by kernel_rfl) rfl plain (by kernel_rfl)
#print axioms card
end Go.Proofs.YtgjflcgmieiafaaGreatDoor.compileMeans
