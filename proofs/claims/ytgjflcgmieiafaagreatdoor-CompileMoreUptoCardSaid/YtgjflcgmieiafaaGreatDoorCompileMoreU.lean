/- CompileMore answers true: rules behind one that matches say nothing, for any table, other table, packet and port of the stated bulk. Conditions: those of the given row and its card (the variable insn.sizes is laid as its initialiser says; bulk at most 1048576). -/
import Derived.Test.YtgjflcgmieiafaaGreatDoorCards
import Derived.Test.YtgjflcgmieiafaaGreatDoorTie
import Derived.Test.YtgjflcgmieiafaaGreatDoorN07
import Derived.WalkKit
import Derived.ProofKit
import Derived.OpenShut
import Derived.Deep.DeepHandedRow
import Derived.Lib.LaidTab
set_option linter.all false
set_option linter.unusedVariables false
set_option linter.unusedSimpArgs false
namespace Go.Proofs.YtgjflcgmieiafaaGreatDoor.compileMore
open Go.ChangeShapes Go.WideShapes Go.ChangeAt Go.RowKit Go.DI Go.DI.Kit Go.Cmp
set_option maxRecDepth 100000
theorem own:ownKnob Tryz.prog.godebug=none:=by kernel_rfl
theorem laidOut:laidOutB Tryz.prog=true:=by kernel_rfl
theorem dataOk:(([26,22]:List TypeId).all λt=>Fh Tryz.prog 9 t)=true:=by kernel_rfl
theorem readOk:(([26,22]:List TypeId).all λt=>Tryz.prog.readableRec t && decide (t<Tryz.prog.types.size))=true:=by kernel_rfl
theorem gTab:Tryz.prog.globalNamed "stockade/insn.sizes" =some 0:=by kernel_rfl
theorem gTabType:(Tryz.prog.globals[0]?).map (·.type)=some 183:=by kernel_rfl
theorem cells183:Tryz.prog.cellsOf 183=4:=by kernel_rfl
theorem cells3:Tryz.prog.cellsOf 3=1:=by kernel_rfl
theorem table{W:World}(h:laidMetH Tryz.prog Rows.compileMoreUptoRow.laid W):Lib.TabIs Tryz.prog W "stockade/insn.sizes" .i64 [4,2,1,8]:=
 Lib.tabIs_of_head (rest:= []) gTab gTabType Tryz.underlying183 Tryz.underlying3 cells3 cells183 h
theorem rules_sl{m:Mem}{d:Dt}{v:Value}(h:Typed Tryz.prog 8 22 d)(ha:Arg Tryz.prog m 22 d v):P0 (Bm m) v:=by
 have hag:GW Tryz.prog 22=some false:=by kernel_rfl
 unfold Arg at ha
 rw[hag]at ha
 simp only at ha
 unfold Typed at h
 rw[Tryz.underlying22]at h
 rcases h with rfl|⟨l,cap,rfl,_⟩
 ·simp only[Gx]at ha;have:v= .slice none 0 0:=by simpa using ha
  exact⟨none,0,0,this, .inl rfl⟩
 ·simp only[Gx]at ha;obtain⟨b,sp,c,h1,h2,h3,_⟩:=ha;have hv:v= .slice (some ⟨b,0,sp⟩) l.length cap:=by simpa using h1
  exact⟨_,_,_,hv, .inr ⟨b,sp,false,c,rfl,JT h2 h3⟩⟩
theorem dt22:Fh Tryz.prog 8 22=true:=by kernel_rfl
theorem tab_small{rs:List BA}(hr:Gv rs)(hv:∀r∈rs,0<=r.verdict/\r.verdict<4294967296)(hn:G1 rs<=1000000):dc rs 3000000:=by
 have hl:rs.length+(rs.map λr=>r.tests.length).sum<=1000000:=hn
 have ht:∀r∈rs,r.tests.length<=1000000:=λr hx=>by have:=Yp hx;omega
 exact⟨hr,hv,by omega,λr hx=>by have:=ht r hx;omega,by omega,by omega,λr hx=>by have:=ht r hx;omega⟩
theorem run{H:Type}{m:Mem}{l:List Dt}{vs:List Value}{ds:List (DataW H)}{B0:Nat}(ht:m.top)(hs:1<=m.size)(h0:m.get 0= .cells false gl)(ha:Mc Tryz.prog 9 m [26,22] l vs)
  (hd:l.length=ds.length/\∀(i:Nat) (x:Dt) (y:DataW H),l[i]?=some x->ds[i]?=some y->JS x y) (hb:Rows.uptoBulkAll ds<=1048576):∃R:EV,CR Tryz.prog B0 1 R/\∃m',R 3 vs m=some (.bool true,m'):=by
 obtain⟨d,v,d',v',rfl,rfl,h1,h2,h3,h4⟩:=rQ ha
 obtain⟨d0,d1,d2,v0,pv,pk,port,rfl,rfl,t0,a0,g4,g5,g6,g7⟩:=Wx h0 h1 h2
 have h3:=HV 8 22 d' dt22 h3
 obtain⟨a,p0,p1,p2,p3,_⟩:=O8 t0 a0
 obtain⟨b,q0,q1,q2,q3,_⟩:=O8 h3 h4
 have hw:=Jw [.ag [d0,d1,d2],d'] ds hd.1 hd.2
 simp only[Gw,wt]at hw
 have hab:G1 (a++b)=G1 a+G1 b:=by
  unfold G1;rw[List.length_append,List.map_append,List.sum_append];omega
 have hTab:dc (a++b) 3000000:=tab_small (λr hx=>by
  rcases List.mem_append.1 hx with hx|hx
  ·exact p1 r hx
  ·exact q1 r hx) (λr hx=>by
  rcases List.mem_append.1 hx with hx|hx
  ·exact p0 r hx
  ·exact q0 r hx) (by omega)
 have hla:a.length<=G1 a:=by unfold G1;omega
 have hlb:b.length<=G1 b:=by unfold G1;omega
 exact⟨Cu Tryz.prog kp 1 (ng 3000000) 600,HJ Bu hK Ed (Co Bu hK Ed (ru _ B0) (T1 _) 20) (CK (T1 _) 20) 600,T2 ⟨ht,hs,h0⟩ (tab_small p1 p0 (by omega)) (tab_small q1 q0 (by omega)) hTab (by omega) p3 q3 (rules_sl t0 a0) (rules_sl h3 h4) g4 g5 ⟨g6,g7⟩⟩
theorem contract(H:Type)(enc:TypeId×Value->H)(W:World)(base:Nat)(args:Array Value)(ds gs:List (DataW H))(before:List MemPlace)
  (hval0:∀(j:Nat) t v,Tryz.f3.params[j]?=some t->args[j]?=some v->Value.okWide Tryz.prog W .any base t v)
  (hW:DataW.Whole enc Tryz.prog Tryz.f3.params.toList Rows.compileMoreSpec.vars false W args.toList ds gs before) (hbulk:Rows.uptoSmall H (ds++gs)=true) (hL:laidMetH Tryz.prog Rows.compileMoreUptoRow.laid W):
  Calls Tryz.prog 3 args W λe W'=>∃v,e= .returned v/\Rows.compileMoreSpec.post enc Tryz.prog Tryz.f3 false true false false W args v W':=by
 have hval:∀(j:Nat) t v,Tryz.f3.params[j]?=some t->args[j]?=some v->Value.okWide Tryz.prog W .any base t v:=hval0
 have hW':=hW
 obtain⟨p,q,hA0,hV,rfl,hfz,hnd⟩:=hW
 have hA:DataW.TrodAll enc Tryz.prog W 0 (λ_=>true) true Tryz.f3.params.toList args.toList ds p:=hA0
 rw[Tryz.params3]at hA hval
 obtain⟨rfl,rfl⟩:=trodVars_none hV
 have hA1:DataW.TrodAll enc Tryz.prog W 0 (λ_=>true) true [26,22] args.toList ds p:=hA
 have hB:=RT hA1
 have c0:W.cell? ⟨0,0,none⟩=some (.int .i64 4):=(table hL).cell gTab 0 (by decide)
 have c1:W.cell? ⟨0,1,none⟩=some (.int .i64 2):=(table hL).cell gTab 1 (by decide)
 have c2:W.cell? ⟨0,2,none⟩=some (.int .i64 1):=(table hL).cell gTab 2 (by decide)
 have c3:W.cell? ⟨0,3,none⟩=some (.int .i64 8):=(table hL).cell gTab 3 (by decide)
 obtain⟨_,rc,e,fr,hh,k0⟩:=EW c0
 obtain⟨_,rc1,e1,fr1,hh1,k1⟩:=EW c1
 obtain⟨_,rc2,e2,fr2,hh2,k2⟩:=EW c2
 obtain⟨_,rc3,e3,fr3,hh3,k3⟩:=EW c3
 have hh1:W.heap[0]?=some (.cells rc1 e1 fr1):=hh1
 have hh2:W.heap[0]?=some (.cells rc2 e2 fr2):=hh2
 have hh3:W.heap[0]?=some (.cells rc3 e3 fr3):=hh3
 have hh:W.heap[0]?=some (.cells rc e fr):=hh
 rw[hh]at hh1 hh2 hh3
 cases hh1;cases hh2;cases hh3
 have hlen:4<=rc.size:=(Array.getElem?_eq_some_iff.1 k3).1
 have hst:=R0.start1 (gl:=gl) hh hlen (λi v hv=>by
  rcases i with _|_|_|_|i
  ·cases hv;exact⟨k0,λ_=> .int _ _⟩
  ·cases hv;exact⟨k1,λ_=> .int _ _⟩
  ·cases hv;exact⟨k2,λ_=> .int _ _⟩
  ·cases hv;exact⟨k3,λ_=> .int _ _⟩
  ·cases hv)
 have hC:=RU hst dataOk hA1 (λj t v ht hv=>hval j t v (by simpa using ht) hv) hB (λm l vs ht hms hmg h hdr=>
  run ht hms ((hmg 0 (by rw[mG_size];omega)).trans (mG_get gl)) h hdr (by
   have:=of_decide_eq_true hbulk;rw[List.append_nil]at this;exact this))
 refine hC.mono λe W' ⟨he,bel⟩=>?_
 subst he
 have hA2:=JE laidOut readOk hA1 bel hB
 obtain⟨v0,vs0,d0,ds0,p0,q0,hargs,rfl,rfl,h0,r0⟩:=trodAll_cons hA1
 obtain⟨v1,vs1,d1,ds1,p1,q1,rfl,rfl,rfl,h1,r1⟩:=trodAll_cons r0
 obtain⟨rfl,rfl,rfl⟩:=trodAll_nil r1
 clear hA0 hval0
 exact⟨_,rfl,_,_,_,[],_,[],hW',trodAll_mk1 (shut_bool Tryz.underlying4 _),hA2,rfl,bel.frame _,λh=>by cases h⟩
noncomputable def laidWorld(os:Os):World:=
 {World.holding Tryz.prog os ⟨#[],#[],[]⟩with heap:=(World.holding Tryz.prog os ⟨#[],#[],[]⟩).heap.modify 0 fun
   | .cells _ t frozen=> .cells #[.int .i64 4, .int .i64 2, .int .i64 1, .int .i64 8] t frozen
   |o=>o}
theorem laid_met(os:Os):laidMet Tryz.prog Rows.compileMoreUptoRow.laid ((laidWorld os).forCall (λ_ _=>0) ⟨#[],#[.agg #[.slice none 0 0, .slice none 0 0, .int .u32 0], .slice none 0 0],[]⟩).memory:=
 laidMet_of_run' 8 (by kernel_rfl) (by kernel_rfl)
theorem reads(os:Os){H:Type}(enc:TypeId×Value->H):∃places,DataW.whole enc Tryz.prog ((laidWorld os).forCall (λ_ _=>0) ⟨#[],#[.agg #[.slice none 0 0, .slice none 0 0, .int .u32 0], .slice none 0 0],[]⟩).memory Tryz.f3.params.toList Rows.compileMoreSpec.vars false #[Value.agg #[.slice none 0 0, .slice none 0 0, .int .u32 0],Value.slice none 0 0].toList 8=some ([.agg [.nil, .nil, .lit (.int .u32 0)], .nil],[],places):=
 ⟨[],by kernel_rfl⟩
theorem liftedUpto(os:Os)(started:os.Started)(H:Type)(enc:TypeId×Value->H)(F:Stop.Interp):
  ReturnsInHanded {} Tryz.checked os 3 .any ((Rows.OpenSpec.upto Rows.compileMoreSpec).preRow enc Tryz.prog Tryz.f3 Rows.compileMoreUptoRow.domain false Rows.compileMoreUptoRow.laid) (((Rows.OpenSpec.upto Rows.compileMoreSpec).at F).post enc Tryz.prog Tryz.f3 false true false false):=by
 obtain⟨places,hx⟩:=reads os enc
 refine returnsInHanded_of_row (C:=Tryz.checked) (s:=Rows.OpenSpec.upto Rows.compileMoreSpec) own started (by kernel_rfl) Tryz.func3
  (witness_row_at (enc:=enc) (C:=Tryz.checked) false (laidWorld os) #[.agg #[.slice none 0 0, .slice none 0 0, .int .u32 0], .slice none 0 0] rfl (by kernel_rfl) (by kernel_rfl) (by kernel_rfl)
   (OpenSpec.preRow_of_cond 8 hx (by kernel_rfl) (λk hk=>by cases hk;kernel_rfl) (by kernel_rfl) (laid_met os))) ?_
 intro W base args ds gs before hval hW _ hcond _ hL _ _
 exact contract H enc W base args ds gs before hval hW (hcond _ rfl) hL
theorem saidUpto:Rows.CompileMoreUptoSaid:=
 OpenClaim.holds_of_cond 3 Tryz.f3 rfl rfl rfl rfl rfl rfl rfl ⟨rfl,rfl,rfl,rfl,rfl⟩ rfl rfl rfl rfl rfl (by kernel_rfl) Tryz.func3 (by kernel_rfl)
  (of_decide_eq_true (by kernel_rfl)) (by unfold Func.isWrapper;first|(rw[if_pos (by decide+kernel)];kernel_rfl)|(rw[if_neg (by decide+kernel)];exact⟨rfl,rfl⟩))
  (λos started H enc _ F=>by rw[OpenClaim.pre_eq_preRow];exact liftedUpto os started H enc F)
theorem plain(f:FuncId)(fn:Func)(hf:Tryz.pinned.checked.prog.funcNamed "stockade/stockadelaw19.CompileMore" =some f)(hfn:Tryz.pinned.checked.prog.funcs[f]?=some fn):
  false=Tryz.pinned.checked.prog.looks []/\∀(j:Nat) t,fn.params[j]?=some t->Tryz.pinned.checked.prog.wantsStandIn t=false:=by
 obtain rfl:f=3:=Option.some.inj ((show Tryz.prog.funcNamed "stockade/stockadelaw19.CompileMore" =some 3 by kernel_rfl).symm.trans hf)|>.symm
 obtain rfl:fn=Tryz.f3:=(Option.some.inj (Tryz.func3.symm.trans hfn)).symm
 refine⟨by kernel_rfl,λj t ht=>?_⟩
 rw[Tryz.params3]at ht
 have hm:=Array.mem_of_getElem? ht
 have hm:t=26\/t=22:=by simpa using hm
 rcases hm with rfl|rfl
 ·exact(show Tryz.prog.wantsStandIn 26=false by kernel_rfl)
 ·exact(show Tryz.prog.wantsStandIn 22=false by kernel_rfl)
theorem cardUpto:Rows.CompileMoreUptoCardSaid:=
 Claim7.holds_tied_plain_at .later [] _ _ _ _ saidUpto (λ_ h=>by cases h) (by kernel_rfl) (λ_ h=>by cases h) compileMoreUpto_row_tie rfl ⟨rfl,rfl⟩ (by kernel_rfl) rfl plain (by kernel_rfl)
#print axioms cardUpto
end Go.Proofs.YtgjflcgmieiafaaGreatDoor.compileMore
