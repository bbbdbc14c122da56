/- CompileMeans answers true: the code of any table, run with any packet by any port, says what the table says. Conditions: those of the given row and its card (the variable insn.sizes is laid as its initialiser says). -/
import Derived.Test.YtgjflcgmieiafaaGreatDoorM03
import Derived.Test.YtgjflcgmieiafaaGreatDoorM05
import Derived.Test.YtgjflcgmieiafaaGreatDoorM02
import Derived.OrdersIn
import Derived.TacticsIn
import Derived.RangeFuncCalls
import Derived.RangeFuncWrites
import Derived.Test.YtgjflcgmieiafaaGreatDoorM04
import Derived.RangeFuncLeaves
set_option linter.all false
set_option linter.unusedVariables false
set_option linter.unusedSimpArgs false
namespace Go.Proofs.YtgjflcgmieiafaaGreatDoor
open Go Go.DI Go.DI.Kit Go.Proofs Go.Cmp
noncomputable section
def V4:Value->Bool
 | .int _ _=>true
 | .bool _=>true
 |_=>false
def V5:Value->Bool
 | .agg a=>a.toList.all V4
 |v=>V4 v
def V6:Value->Bool
 | .tuple a=>a.toList.all V5
 |v=>V5 v
theorem Zh{v:Value}(h:V4 v=true):Free v:=by
 cases v<;>simp[V4]at h
 ·exact Dn _
 ·exact CH _ _
theorem Zi{v:Value}(h:V5 v=true):Free v:=by
 unfold V5 at h
 split at h
 ·exact Zj λx hx=>Zh (List.all_eq_true.1 h x hx)
 ·exact Zh h
theorem Zk{v:Value}(h:V6 v=true):Free v:=by
 unfold V6 at h
 split at h
 ·exact FF λx hx=>Zi (List.all_eq_true.1 h x hx)
 ·exact Zi h
def oQ:CX:=λf a M=>
 if f=5 then Pt gl (DR Tryz.prog kp 1 200) f a M
 else if f=34\/f=40\/f=41\/f=59\/f=65 then Pt gl (DR Tryz.prog kp 1 20) f a M
 else none
theorem wx(a:List Value)(M:Mem):oQ 5 a M=Pt gl (DR Tryz.prog kp 1 200) 5 a M:=if_pos rfl
theorem C0{f:FuncId}(h:f=34\/f=40\/f=41\/f=59\/f=65)(a:List Value)(M:Mem):oQ f a M=Pt gl (DR Tryz.prog kp 1 20) f a M:=by
 unfold oQ
 rw[if_neg (by rcases h with rfl|rfl|rfl|rfl|rfl<;>decide),if_pos h]
theorem od(f:FuncId)(h:f∉ [5,34,40,41,59,65])(a:List Value)(M:Mem):oQ f a M=none:=by
 simp only[List.mem_cons,List.not_mem_nil,or_false,not_or]at h
 unfold oQ
 rw[if_neg h.1,if_neg (by rintro(e|e|e|e|e)<;>simp_all)]
theorem V7{B0:Nat}{f:FuncId}{a:List Value}{M M':Mem}{v:Value}(h:oQ f a M=some (v,M')):EJ Tryz.prog B0 1 f a M v M'/\EM M M':=by
 unfold oQ at h
 split at h
 ·exact V8 CO (KB Bw hK Ee 200) (λ_ _ _ _ _ h=>GA 200 _ _ _ _ _ h) h
 split at h
 ·exact V8 CO (KB Bw hK Ee 20) (λ_ _ _ _ _ h=>GA 20 _ _ _ _ _ h) h
 ·cases h
theorem NB:B9 oQ:=λf a M v M' h=>(V7 (B0:=0) h).2
theorem tx{f:FuncId}{a:List Value}{M M':Mem}{v:Value}(h:oQ f a M=some (v,M')):∃fn,Tryz.prog.funcs[f]?=some fn∧fn.body.isNone=false∧(fn.name== "runtime.NumGoroutine")=false:=by
 unfold oQ at h
 split at h
 ·rename_i hf;subst hf;exact hasB (by kernel_rfl)
 split at h
 ·rename_i hf;rcases hf with rfl|rfl|rfl|rfl|rfl<;>exact hasB (by kernel_rfl)
 ·cases h
theorem m9{B0:Nat}:CU Tryz.prog B0 1 oQ:=⟨λf a M v M' h=>(NB f a M v M' h).size,λf a M v M' h=>(V7 h).1,λf a M v M' h=>tx h⟩
theorem CY{f:FuncId}{a:List Value}{v:Value}{kk:Nat}(hf:∀M,oQ f a M=Pt gl (DR Tryz.prog kp 1 kk) f a M)(h:Y.callK Tryz.prog kp 1 kk f a (mG gl) (λv m=>some (v,m.get 0))=some (v, .cells false gl))(ha:a.all V6=true)(hv:V6 v=true)(hok:Ib Tryz.prog f v=true):Pure oQ f a v:=λk M hk ht h1 h0=>by
 obtain⟨m,c1,c2⟩:=gN h
 exact⟨_,gO hk ((hf M).trans (gQ ht h1 h0 (λx hx=>Zk (List.all_eq_true.1 ha x hx)) c1 (Zk hv) c2)) hok,Xb M _⟩
theorem Lj(x:Bb)(e:Int):Ib Tryz.prog 65 (.tuple ⟨[Ec x, .int .i64 e]⟩)=true:=by
 kernel_rfl
theorem oh:Pure oQ 5 [] (.bool true):=CY (wx _) TU rfl rfl (by kernel_rfl)
theorem mkC{w i:Value}{x:Bb}(h:Lk w i x):Pure oQ 65 [w,i] (.tuple ⟨[Ec x, .int .i64 0]⟩):=by
 have h52:(65:FuncId)=34\/(65:FuncId)=40\/(65:FuncId)=41\/(65:FuncId)=59\/(65:FuncId)=65:=by decide
 cases h with
 |num h=>
  rcases h with⟨rfl,rfl⟩|⟨rfl,rfl⟩|⟨rfl,rfl⟩
  ·exact CY (C0 h52 _) (Xc _) rfl rfl (Lj _ _)
  ·exact CY (C0 h52 _) (RM _) rfl rfl (Lj _ _)
  ·exact CY (C0 h52 _) (Zl _) rfl rfl (Lj _ _)
 |regs h=>
  rcases h with⟨rfl,rfl,rfl⟩|⟨rfl,rfl,rfl⟩|⟨rfl,rfl,rfl⟩
  ·exact CY (C0 h52 _) (RN) rfl rfl (Lj _ _)
  ·exact CY (C0 h52 _) (RO) rfl rfl (Lj _ _)
  ·exact CY (C0 h52 _) (Xd) rfl rfl (Lj _ _)
 |low=>exact CY (C0 h52 _) (gR _) rfl rfl (Lj _ _)
 |exit=>exact CY (C0 h52 _) (Zm) rfl rfl (Lj _ _)
 |const=>exact CY (C0 h52 _) (Xe _) rfl rfl (Lj _ _)
 |load h=>
  rcases h with⟨rfl,rfl,rfl⟩|⟨rfl,rfl,rfl⟩|⟨rfl,rfl,rfl⟩|⟨rfl|rfl|rfl|rfl,rfl,rfl⟩
  ·exact CY (C0 h52 _) (Zn _) rfl rfl (Lj _ _)
  ·exact CY (C0 h52 _) (Zo _) rfl rfl (Lj _ _)
  ·exact CY (C0 h52 _) (gS _) rfl rfl (Lj _ _)
  ·exact CY (C0 h52 _) (Xf _) rfl rfl (Lj _ _)
  ·exact CY (C0 h52 _) (Xg _) rfl rfl (Lj _ _)
  ·exact CY (C0 h52 _) (Xh _) rfl rfl (Lj _ _)
  ·exact CY (C0 h52 _) (Xi _) rfl rfl (Lj _ _)
 |jif h=>
  rcases h with⟨rfl,rfl⟩|⟨rfl,rfl⟩|⟨rfl,rfl⟩|⟨rfl,rfl⟩
  ·exact CY (C0 h52 _) (gT _) rfl rfl (Lj _ _)
  ·exact CY (C0 h52 _) (gU _) rfl rfl (Lj _ _)
  ·exact CY (C0 h52 _) (Zp _) rfl rfl (Lj _ _)
  ·exact CY (C0 h52 _) (gV _) rfl rfl (Lj _ _)
 |jifR h=>
  rcases h with rfl|rfl
  ·exact CY (C0 h52 _) (Xj) rfl rfl (Lj _ _)
  ·exact CY (C0 h52 _) (Zq) rfl rfl (Lj _ _)
 |goto=>exact CY (C0 h52 _) (Zr) rfl rfl (Lj _ _)
 |swap h=>
  rcases h with rfl|rfl|rfl
  ·exact CY (C0 h52 _) (gW) rfl rfl (Lj _ _)
  ·exact CY (C0 h52 _) (gX) rfl rfl (Lj _ _)
  ·exact CY (C0 h52 _) (gY) rfl rfl (Lj _ _)
theorem gZ:Gy oQ where
 off:=od
 mkP h:=⟨0,mkC h⟩
 most h:=by
  rcases h with rfl|rfl|rfl|rfl
  ·exact CY (C0 (by decide) _) g8 rfl rfl (by kernel_rfl)
  ·exact CY (C0 (by decide) _) g9 rfl rfl (by kernel_rfl)
  ·exact CY (C0 (by decide) _) ga rfl rfl (by kernel_rfl)
  ·exact CY (C0 (by decide) _) gg rfl rfl (by kernel_rfl)
 small n:=by
  have h:=gh n;by_cases hn:n<2147483648
  ·rw[Ef hn]at h;rw[decide_eq_true hn];exact CY (C0 (by decide) _) h rfl rfl (by kernel_rfl)
  ·rw[Ck hn]at h;rw[decide_eq_false hn];exact CY (C0 (by decide) _) h rfl rfl (by kernel_rfl)
 full h:=by
  rcases h with rfl|rfl|rfl|rfl
  ·exact CY (C0 (by decide) _) gi rfl rfl (by kernel_rfl)
  ·exact CY (C0 (by decide) _) gj rfl rfl (by kernel_rfl)
  ·exact CY (C0 (by decide) _) gn rfl rfl (by kernel_rfl)
  ·exact CY (C0 (by decide) _) gp rfl rfl (by kernel_rfl)
 full2 h:=by
  rcases h with rfl|rfl|rfl|rfl
  ·exact CY (C0 (by decide) _) gq rfl rfl (by kernel_rfl)
  ·exact CY (C0 (by decide) _) gr rfl rfl (by kernel_rfl)
  ·exact CY (C0 (by decide) _) gu rfl rfl (by kernel_rfl)
  ·exact CY (C0 (by decide) _) hP rfl rfl (by kernel_rfl)
noncomputable def Wk:Code:=match(items Sm)[6]? with|some c=>c|none=> .skip
noncomputable def cK:Code:=match Wk with| .block _ (.loop c)=>c|_=> .skip
theorem cL:Wk= .block 0 (.loop cK):=by kernel_rfl
noncomputable def hL(p:Nat)(st:Int)(over:Bool)(blk:BH):H.Hint where
 ix _:=false
 ld _ t off:=cond (Nat.beq t 4) (cond (Nat.beq off 885) (some (.bool over)) none) (cond (Nat.beq t 3) (cond (Nat.beq off 884) (some (.int .i64 st)) none) none)
 cmp op t:=cond (Nat.beq t 3) (BinOp.rec (motive:=λ_=>Option Bool) none none none none none none none none none none none none none (some true) none none none op) none
 ap _:=none
 call f:=cond (Nat.beq f 45) (some (.tuple ⟨[.int .i64 0, .int .i64 0]⟩)) (cond (Nat.beq f 28) (some (.bool true)) none)
 spec _ _ _ _:=False
 blk:=0
 eff f m:=cond (Nat.beq f 28) (m.set p blk) m
 specM f:=cond (Nat.beq f 28) (some λargs m v=>oS 28 args m=some (v,m.set p blk)) none
noncomputable def nL(p:Nat)(st:Int)(over:Bool)(blk:BH)(k:Nat)(t:AF)(M:Mem):Option (H.TT (Ex×AF×Mem)):=
 H.codeT (hL p st over blk) cK Tryz.prog kp 1 (H.callT (hL p st over blk) Tryz.prog kp 1 20) (λbody _ k t m q=>Y.loopF body k t m q) 84 k t M λe t m=>some ((e,t,m),[],[])
noncomputable def Bc(p o:Nat):Value:= .pointer (some ⟨p,o,none⟩)
noncomputable def Oa(z p:Nat):List (Nat×Value):= [(4, .int .i64 512),(10,Bc z 0),(11, .int .i64 0),(12,Bc p 0)]
theorem qg(x:Nat->Value)(z p k:Nat)(st:Int)(blk:BH)(M:Mem):
  Rn (nL p st false blk k (AB 84 (up x (Oa z p))) M) ((.normal,AB 84 (up (up x [(34,Bc p 0),(35,Bc p 0),(36,Bc p (Nat.add 0 885)),(37, .bool false),(38, .bool true),(39, .bool true),(40,Bc p 0),(41,Bc p 0),(42,Bc p (Nat.add 0 884)),(43, .int .i64 st),(44, .int .i64 512),(45, .bool true),(46, .bool true),(47,Bc p 0),(48, .bool true)]) (Oa z p)),M.set p blk),
    [H.ldOk (M.get p) 885 false 1 (.bool false),H.ldOk (M.get p) 884 false 1 (.int .i64 st),BY Tryz.prog kp .lss 3 (.int .i64 st) (.int .i64 512)=some (.bool true),oS 28 [Bc p 0] M=some (.bool true,M.set p blk)]):=⟨by kernel_rfl,by kernel_rfl⟩
theorem qh(x:Nat->Value)(z p k:Nat)(st:Int)(blk:BH)(M:Mem):
  Rn (nL p st true blk k (AB 84 (up x (Oa z p))) M) ((.exit 0,AB 84 (up (up x [(34,Bc p 0),(35,Bc p 0),(36,Bc p (Nat.add 0 885)),(37, .bool true),(38, .bool false),(39, .bool false),(40,undef),(41,undef),(42,undef),(43,undef),(44,undef),(45,undef),(46, .bool false)]) (Oa z p)),M),
    [H.ldOk (M.get p) 885 false 1 (.bool true)]):=⟨by kernel_rfl,by kernel_rfl⟩
noncomputable def oX:CX:=λf a M=>match oS f a M with
 |some r=>some r
 |none=>fJ f a M
theorem uk{a:List Value}{M:Mem}{r:Value×Mem}(h:oS 28 a M=some r):oX 28 a M=some r:=by unfold oX;rw[h]
theorem nM{f:FuncId}(h:f≠28)(a:List Value)(M:Mem):oX f a M=fJ f a M:=by unfold oX;rw[qi h]
theorem U6{f:FuncId}(h:f≠28)(h':f≠45)(a:List Value)(M:Mem):oX f a M=none:=by rw[nM h,kA h']
theorem Qe:B9 oX:=λf a M v M' h=>by
 unfold oX at h
 cases hq:oS f a M with
 |some r=>rw[hq]at h;cases h;exact cM _ _ _ _ _ hq
 |none=>rw[hq]at h;exact kB _ _ _ _ _ h
theorem um(hW:E3)(B0:Nat):CU Tryz.prog B0 1 oX:=by
 refine⟨λf a M v M' h=>(Qe f a M v M' h).size,λf a M v M' h=>?_,λf a M v M' h=>?_⟩
 all_goals
  unfold oX at h;cases hq:oS f a M with
  |some r=>rw[hq]at h;cases h;first|exact(nN B0).ok _ _ _ _ _ hq|exact(nN B0).body _ _ _ _ _ hq
  |none=>rw[hq]at h;first|exact(cN hW B0).ok _ _ _ _ _ h|exact(cN hW B0).body _ _ _ _ _ h
theorem nO{p:Nat}{st:Int}{over:Bool}{blk:BH}(f:FuncId)(v:Value)(args:List Value)(m:Mem)(hc:(hL p st over blk).call f=some v)(hs:(hL p st over blk).says f args m v):oX f args m=some (v,(hL p st over blk).eff f m):=by
 by_cases e:f=28
 ·subst e;exact uk hs
 ·have e1:Nat.beq f 28=false:=by cases hb:Nat.beq f 28 with
   |false=>rfl
   |true=>exact absurd (Nat.eq_of_beq_eq_true hb) e
  unfold H.Hint.says at hs;have:(hL p st over blk).specM f=none:=by show cond (Nat.beq f 28) _ _=_;rw[e1];rfl
  rw[this]at hs;exact hs.elim
theorem cO{p:Nat}{st:Int}{over:Bool}{blk:BH}(f:FuncId)(hc:(hL p st over blk).call f=none)(a:List Value)(m:Mem):oX f a m=none:=
 U6 (by rintro rfl;cases hc) (by rintro rfl;cases hc) a m
theorem Wl{mm c t k tm ch n np:Nat}{sp:Option Nat}{port:Int}{r:Int->RV}{at_ st:Int}{over:Bool}:H.ldOk (FN mm c t k tm ch n np sp port (AR r) at_ st over) 885 false 1 (.bool over):=by
 show H.blkNth (FN mm c t k tm ch n np sp port (AR r) at_ st over) 885=some (.bool over)
 kernel_rfl
theorem uo{mm c t k tm ch n np:Nat}{sp:Option Nat}{port:Int}{r:Int->RV}{at_ st:Int}{over:Bool}:H.ldOk (FN mm c t k tm ch n np sp port (AR r) at_ st over) 884 false 1 (.int .i64 st):=by
 show H.blkNth (FN mm c t k tm ch n np sp port (AR r) at_ st over) 884=some (.int .i64 st)
 kernel_rfl
section
variable{p c k t mm tm ch z:Nat}{l:List Bb}{pk:List Int}{sp:Option Nat}{port:Int}
abbrev Wm(k:Nat):AF->Mem->Option (Ex×AF×Mem):=AJ Tryz.prog kp 1 (CJ Tryz.prog kp 1 oX 20) (AY Tryz.prog kp 1 (CJ Tryz.prog kp 1 oX 20) 84) 84 k cK
theorem Sn{M:Mem}{r r':Int->RV}{at_ st at' st':Nat}{over:Bool}(h:L6 M p c k t mm tm ch l pk)(g:M.get p=FN mm c t k tm ch l.length pk.length sp port (AR r) (at_:Int) (st:Int) false)(hst:st<512)(hs:Wn l pk sp port r at_ st r' at' st' over)(kk:Nat)(x:Nat->Value):
  ∃x',Wm kk (AB 84 (up x (Oa z p))) M=some (.normal,AB 84 (up x' (Oa z p)),M.set p (FN mm c t k tm ch l.length pk.length sp port (AR r') (at':Int) (st':Int) over)):=by
 obtain⟨q1,q2⟩:=qg x z p kk (st:Int) (FN mm c t k tm ch l.length pk.length sp port (AR r') (at':Int) (st':Int) over) M
 obtain⟨e,t',m',h1,h2⟩:=H.codeO_H (H:=hL p (st:Int) false (FN mm c t k tm ch l.length pk.length sp port (AR r') (at':Int) (st':Int) over)) (o:=oX) (P:=Tryz.prog) (K:=kp) (G:=1) (j:=20) (n:=84) (k:=kk) (c:=cK) (t:=AB 84 (up x (Oa z p))) (m:=M) (g:=λe t m=>(e,t,m)) nO cO q1 q2 (by
  intro q hq;simp only[List.mem_cons,List.not_mem_nil,or_false]at hq;rcases hq with rfl|rfl|rfl|rfl
  ·rw[g];exact Wl
  ·rw[g];exact uo
  ·simp[BY,BX,B1];omega
  ·exact kC h g hs)
 have e1:e=_:=congrArg (λx=>x.1) h2
 have e2:t'=_:=congrArg (λx=>x.2.1) h2
 have e3:m'=_:=congrArg (λx=>x.2.2) h2
 exact⟨_,h1.trans (by rw[e1,e2,e3])⟩
theorem cP{M:Mem}{r:Int->RV}{at_ st:Nat}(g:M.get p=FN mm c t k tm ch l.length pk.length sp port (AR r) (at_:Int) (st:Int) true)(kk:Nat)(x:Nat->Value):
  ∃x',Wm kk (AB 84 (up x (Oa z p))) M=some (.exit 0,AB 84 (up x' (Oa z p)),M):=by
 obtain⟨q1,q2⟩:=qh x z p kk (st:Int) .none M
 obtain⟨e,t',m',h1,h2⟩:=H.codeO_H (H:=hL p (st:Int) true .none) (o:=oX) (P:=Tryz.prog) (K:=kp) (G:=1) (j:=20) (n:=84) (k:=kk) (c:=cK) (t:=AB 84 (up x (Oa z p))) (m:=M) (g:=λe t m=>(e,t,m)) nO cO q1 q2 (by
  intro q hq;obtain rfl:=List.mem_singleton.1 hq;rw[g];exact Wl)
 have e1:e=_:=congrArg (λx=>x.1) h2
 have e2:t'=_:=congrArg (λx=>x.2.1) h2
 have e3:m'=_:=congrArg (λx=>x.2.2) h2
 exact⟨_,h1.trans (by rw[e1,e2,e3])⟩
theorem Qf(hb:∀b∈pk,0<=b/\b<256)(hpk:pk.length<=1000000)(hport:0<=port/\port<4294967296)(hl:l.length<=512){n:Nat}{a:Nat}{r rf:Int->RV}{pc:Nat}{v:Int}
  (hr:JX l pk port n a r pc rf) (hx:l[pc]?=some D0) (hv:rf 0= .num v):∀{M:Mem} {st:Nat} (kk j:Nat) (x:Nat->Value),n+st<512->n+2<=j->Gd r->
  L6 M p c k t mm tm ch l pk->M.get p=FN mm c t k tm ch l.length pk.length sp port (AR r) (a:Int) (st:Int) false->
  Gd rf/\∃x',BM (Wm kk) j (AB 84 (up x (Oa z p))) M=some (.exit 0,AB 84 (up x' (Oa z p)),M.set p (FN mm c t k tm ch l.length pk.length sp port (AR rf) (pc:Int) ((st+n+1:Nat):Int) true)):=by
 induction hr with
 |nil=>
  rename_i a r;intro M st kk j x hst hj hR hM hg;refine⟨hR,?_⟩;obtain⟨j,rfl⟩:∃j',j=j'+2:=⟨j - 2,by omega⟩;obtain⟨x1,h1⟩:=Sn (z:=z) hM hg (by omega) (U7 (sp:=sp) (port:=port) (st:=st) (by omega) hx hv) kk x;obtain⟨x2,h2⟩:=cP (z:=z) (p:=p) (c:=c) (k:=k) (t:=t) (mm:=mm) (tm:=tm) (ch:=ch) (l:=l) (pk:=pk) (sp:=sp) (port:=port) (r:=r) (at_:=a) (st:=st+1) (M:=M.set p (FN mm c t k tm ch l.length pk.length sp port (AR r) (a:Int) ((st+1:Nat):Int) true)) (Mem.get_set_same ..) kk x1;refine⟨x2,?_⟩;simp only[BM,h1,h2]
 |cons hs hr ih=>
  rename_i n a a1 q r r1 s;intro M st kk j x hst hj hR hM hg;obtain⟨j,rfl⟩:∃j',j=j'+1:=⟨j - 1,by omega⟩;have hq:q<512:=by have:=(List.getElem?_eq_some_iff.1 hx).1;omega
  have hle:=hr.le;have ha:a+1<=a1:=by have:=(JX.cons hs .nil).le;omega
  obtain⟨s1,hR1⟩:=U8 (sp:=sp) (st:=st) hR hb hpk hport (by omega) (by omega) (by omega) hs;obtain⟨x1,h1⟩:=Sn (z:=z) hM hg (by omega) s1 kk x;obtain⟨g1,x2,h2⟩:=ih hx hv (M:=M.set p (FN mm c t k tm ch l.length pk.length sp port (AR r1) (a1:Int) ((st+1:Nat):Int) false)) (st:=st+1) kk j x1 (by omega) (by omega) hR1 (hM.set _) (Mem.get_set_same ..);refine⟨g1,x2,?_⟩;simp only[BM,h1,h2,Mem.set_set];rw[show st+1+n+1=st+(n+1)+1 by omega]
end
noncomputable def hT(P:Option (List Value)):H.Hint where
 ix _:=false
 ld _ _ _:=none
 cmp _ _:=none
 ap t:=cond (Nat.beq t 23) P none
 call f:=cond (Nat.beq f 45) (some (.tuple ⟨[.int .i64 0, .int .i64 0]⟩)) (cond (Nat.beq f 28) (some (.bool true)) none)
 spec _ _ _ _:=False
 blk:=0
 specM f:=cond (Nat.beq f 28) (some never) none
noncomputable def cQ(P:Option (List Value))(t:AF)(M:Mem):Option (H.TT (Ex×Option (List Value)×Mem)):=
 H.codeT (hT P) (Dl ((items Sm).drop 7)) Tryz.prog kp 1 (H.callT (hT P) Tryz.prog kp 1 20) (λbody _ k t m q=>Y.loopF body k t m q) 84 600 t M λe t m=>some ((e,DM Tryz.prog t m Tryz.f15.results.toList,m),[],[])
noncomputable def JG(pc v st:Int)(pv:Value):List Value:= [.int .i64 0, .int .i64 pc, .int .u64 v, .int .i64 st,pv]
noncomputable def kD(L P:List Value)(n np:Nat)(port:Int)(z:Nat)(regs:List Value)(at_ st v:Int):List BH:= [.cells true (I2 (A6 1 n)), .cells true (MO port), .cells true (JG at_ v st (Gu (z+15) np (some 1))),
 .cells true (I2 (A6 1 n)), .cells true (MO port),GV,GV, .cells true P,FN (z+9) (z+11) (z+5) (z+7) (z+12) (z+13) n np (some 1) port regs at_ st true,GV,GV, .cells true L,GV,GV,GV, .cells true P, .cells true (JG at_ v st (Gu (z+15) np (some 1)))]
noncomputable def So(L:List Value)(n:Nat)(port:Int)(z:Nat)(regs:List Value)(at_ st v:Int):List BH:= [.cells true (I2 (A6 1 n)), .cells true (MO port), .cells true (JG at_ v st (Gu (z+13) 0 none)),
 .cells true (I2 (A6 1 n)), .cells true (MO port),GV,GV,FN (z+8) (z+10) (z+5) (z+6) (z+11) (z+12) n 0 none port regs at_ st true,GV,GV, .cells true L,GV,GV,GV, .cells true (JG at_ v st (Gu (z+13) 0 none))]
theorem qj(x:Nat->Value)(o1 o2:Bool)(L P:List Value)(n np:Nat)(port:Int)(rf:Int->RV)(pc st:Int):
  Rn (cQ (some P) (AB 84 (up x (Oa 8 14))) ((mS gl (O7 o1 o2 L P n++qc L P n np port 6 (AR Du) 0 0 false)).set 14 (FN 15 17 11 13 18 19 n np (some 1) port (AR rf) pc st true))) ((.ret,some [.agg ⟨JG pc (nv (rf 0)) st (Gu 21 np (some 1))⟩, .int .i64 0],mS gl (O7 o1 o2 L P n++kD L P n np port 6 (AR rf) pc st (nv (rf 0)))),
    [H.apOk (.cells true P) 0 1 1 np P]):=⟨by kernel_rfl,by kernel_rfl⟩
theorem qk(x:Nat->Value)(o1 o2:Bool)(L:List Value)(n:Nat)(port:Int)(rf:Int->RV)(pc st:Int):
  Rn (cQ none (AB 84 (up x (Oa 7 12))) ((mS gl (O8 o1 o2 L n++Y8 L n port 5 (AR Du) 0 0 false)).set 12 (FN 13 15 10 11 16 17 n 0 none port (AR rf) pc st true))) ((.ret,some [.agg ⟨JG pc (nv (rf 0)) st (Gu 18 0 none)⟩, .int .i64 0],mS gl (O8 o1 o2 L n++So L n port 5 (AR rf) pc st (nv (rf 0)))),[]):=⟨by kernel_rfl,by kernel_rfl⟩
theorem ql(x:Nat->Value)(o1:Bool)(L:List Value)(n:Nat)(port:Int)(rf:Int->RV)(pc st:Int):
  Rn (cQ none (AB 84 (up x (Oa 6 11))) ((mS gl (O9 o1 L n++Y8 L n port 4 (AR Du) 0 0 false)).set 11 (FN 12 14 9 10 15 16 n 0 none port (AR rf) pc st true))) ((.ret,some [.agg ⟨JG pc (nv (rf 0)) st (Gu 17 0 none)⟩, .int .i64 0],mS gl (O9 o1 L n++So L n port 4 (AR rf) pc st (nv (rf 0)))),[]):=⟨by kernel_rfl,by kernel_rfl⟩
abbrev Y9:Ed:=CJ Tryz.prog kp 1 oX 20
theorem qm:List.drop 6 (items Sm)=Wk::List.drop 7 (items Sm):=by kernel_rfl
theorem L7{args:List Value}{M0 M1 M2 M3:Mem}{t1 t2 t3:AF}{vs:List Value}(hn:args.length=5)
  (h1:AJ Tryz.prog kp 1 Y9 (AY Tryz.prog kp 1 Y9 84) 84 600 (Dl ((items Sm).take 6)) (AB 84 (Bq args)) M0=some (.normal,t1,M1))
  (h2:BM (Wm 600) 600 t1 M1=some (.exit 0,t2,M2))
  (h3:AJ Tryz.prog kp 1 Y9 (AY Tryz.prog kp 1 Y9 84) 84 600 (Dl ((items Sm).drop 7)) t2 M2=some (.ret,t3,M3)) (h4:DM Tryz.prog t3 M3 Tryz.f15.results.toList=some vs):
  Co Tryz.prog kp 1 Y9 600 15 args M0=some (F6 vs,M3):=by
 have hm:max args.length Tryz.f15.ntmps=84:=by rw[yu,hn];rfl
 have key:AJ Tryz.prog kp 1 Y9 (AY Tryz.prog kp 1 Y9 84) 84 600 Sm (AB 84 (Bq args)) M0=some (.ret,t3,M3):=by
  rw[IX Sm,←List.take_append_drop 6 (items Sm),HS,←Dg,h1];simp only;rw[qm]
  have hb:AJ Tryz.prog kp 1 Y9 (AY Tryz.prog kp 1 Y9 84) 84 600 Wk t1 M1=some (.normal,t2,M2):=by
   rw[cL];simp only[AJ];rw[h2];rfl
  simp only[HR,hb];rw[←Dg,h3]
 unfold Co
 rw[yq]
 simp only
 rw[yr]
 simp only
 rw[hm,key]
 simp only[UQ,h4]
theorem OI{L:List Value}{P:Option (List Value)}(f:FuncId)(v:Value)(args:List Value)(m:Mem)(hc:(hA L P).call f=some v)(hs:(hA L P).says f args m v):oX f args m=some (v,(hA L P).eff f m):=by
 by_cases e:f=28
 ·subst e;exact hs.elim
 ·have e1:Nat.beq f 28=false:=by cases hb:Nat.beq f 28 with
   |false=>rfl
   |true=>exact absurd (Nat.eq_of_beq_eq_true hb) e
  unfold H.Hint.says at hs;have:(hA L P).specM f=some λargs m v=>fJ f args m=some (v,m):=by show cond (Nat.beq f 28) _ _=_;rw[e1];rfl
  rw[this]at hs;rw[nM e];exact hs
theorem L8{L:List Value}{P:Option (List Value)}(f:FuncId)(hc:(hA L P).call f=none)(a:List Value)(m:Mem):oX f a m=none:=
 U6 (by rintro rfl;cases hc) (by rintro rfl;cases hc) a m
theorem cR{P:Option (List Value)}(f:FuncId)(v:Value)(args:List Value)(m:Mem)(hc:(hT P).call f=some v)(hs:(hT P).says f args m v):oX f args m=some (v,(hT P).eff f m):=by
 exfalso
 unfold H.Hint.says at hs
 cases hq:(hT P).specM f with
 |none=>rw[hq]at hs;exact hs
 |some g=>
  rw[hq]at hs;have hq:cond (Nat.beq f 28) (some never) none=some g:=hq;cases hb:Nat.beq f 28<;>rw[hb]at hq
  ·cases hq
  ·cases hq;exact hs
theorem U9{P:Option (List Value)}(f:FuncId)(hc:(hT P).call f=none)(a:List Value)(m:Mem):oX f a m=none:=
 U6 (by rintro rfl;cases hc) (by rintro rfl;cases hc) a m
structure Ly(l:List Bb)(pk:List Int)(port v:Int):Prop where
 shape:D7 l
 bytes:∀b∈pk,0<=b/\b<256
 len:pk.length<=65535
 prt:0<=port/\port<4294967296
 runs:∃pc n r,JX l pk port n 0 Du pc r/\l[pc]?=some D0/\r 0= .num v/\n<l.length
theorem Ua:Gd Du:=by
 intro i n h
 unfold Du at h
 split at h<;>simp_all
section
variable{l:List Bb}{pk:List Int}{port v:Int}{o1 o2:Bool}
theorem DY(ss:List BH):(mS gl ss).top:=λj hj=>by
 have e:(mS gl ss).size=1+ss.length:=by unfold mS;rw[CQ,mG_size]
 rw[e]at hj
 have:=Bf ss (mG gl) j
 unfold mS
 rw[this,mG_size,if_neg (by omega),List.getElem?_eq_none (by omega)]
 exact mG_top gl j (by rw[mG_size];omega)
theorem Ub(h:D7 l)(own:Bool)(ss:List BH):uj l.length port (.cells own (AE l)::ss):=by
 have e0:∀ss':List BH,(mS gl (.cells own (AE l)::ss')).get 0= .cells false gl:=λss'=>by
  have:=Bf (.cells own (AE l)::ss') (mG gl) 0;unfold mS;rw[this,mG_size,if_pos (by decide),mG_get]
 have e1:∀ss':List BH,(mS gl (.cells own (AE l)::ss')).get 1= .cells own (AE l):=λss'=>by
  have:=Bf (.cells own (AE l)::ss') (mG gl) 1;unfold mS;rw[this,mG_size,if_neg (by decide)];rfl
 have ez:∀ss':List BH,1< (mS gl (.cells own (AE l)::ss')).size:=λss'=>by
  unfold mS;rw[CQ,mG_size,List.length_cons];omega
 unfold uj
 rw[List.cons_append]
 refine if_pos ⟨rfl,1,rfl,?_,Wi (o1:=own) (l:=l) (DY _) (e0 _) (Nat.le_of_lt (ez _)) (ez _) (by decide) (e1 _)⟩
 rw[e1]
 exact⟨own,l,rfl,rfl,rfl,h⟩
theorem Uc{n:Nat}(h:n<=65535):ui n:=by
 unfold ui
 simp[BY,BX,B1];omega
theorem Qg:cJ:=by unfold cJ;simp[BY,BX,B1]
theorem uq(hR:Ly l pk port v)(hne:pk≠ []):
  ∃pc st regs,Co Tryz.prog kp 1 Y9 600 15 (Fo l.length (Gu 5 pk.length (some 1)) port) (mS gl (O7 o1 o2 (AE l) (AH pk) l.length))=
   some (.tuple ⟨[.agg ⟨JG pc v st (Gu 21 pk.length (some 1))⟩, .int .i64 0]⟩,mS gl (O7 o1 o2 (AE l) (AH pk) l.length++kD (AE l) (AH pk) l.length pk.length port 6 (AR regs) pc st v)):=by
 obtain⟨pc,n,rf,hrun,hx,hv,hn⟩:=hR.runs
 obtain⟨q1,q2⟩:=qd o1 o2 (AE l) (AH pk) l.length pk.length port
 obtain⟨e,t1,M1,a1,a2⟩:=H.codeO_H (H:=hA (AE l) (some (AH pk))) (o:=oX) (P:=Tryz.prog) (K:=kp) (G:=1) (j:=20) (n:=84) (k:=600) (c:=Dl ((items Sm).take 6)) (t:=AB 84 (Bq (Fo l.length (Gu 5 pk.length (some 1)) port))) (m:=mS gl (O7 o1 o2 (AE l) (AH pk) l.length)) (g:=λe t m=>(e,t,m)) OI L8 q1 q2 (by
  intro q hq;simp only[List.mem_cons,List.not_mem_nil,or_false]at hq;rcases hq with rfl|rfl|rfl|rfl|rfl
  ·exact Ub hR.shape o1 _
  ·exact Uc hR.len
  ·exact Jq hne hR.len
  ·exact L9 hR.shape.pos hR.shape.most
  ·exact Qg)
 have e1:e=_:=congrArg (λx=>x.1) a2
 have e2:t1=_:=congrArg (λx=>x.2.1) a2
 have e3:M1=_:=congrArg (λx=>x.2.2) a2
 simp only at e1 e2 e3
 have hM:L6 M1 14 17 13 11 15 18 19 l pk:=by
  rw[e3];have hz:(mS gl (O7 o1 o2 (AE l) (AH pk) l.length++qc (AE l) (AH pk) l.length pk.length port 6 (AR Du) 0 0 false)).size=20:=by kernel_rfl
  refine⟨DY _,by kernel_rfl,by rw[hz];decide,?_,by decide,by decide,by kernel_rfl,by kernel_rfl,by kernel_rfl,by kernel_rfl,by kernel_rfl,by kernel_rfl⟩;intro b hb;rw[hz]
  revert b
  decide
 have hg:M1.get 14=FN 15 17 11 13 18 19 l.length pk.length (some 1) port (AR Du) ((0:Nat):Int) ((0:Nat):Int) false:=by rw[e3];kernel_rfl
 have hf:∃x,t1=AB 84 (up x (Oa 8 14)):=⟨up (Bq (Fo l.length (Gu 5 pk.length (some 1)) port)) (tM 6 14 (Eu (A6 1 l.length)) (Gu 5 pk.length (some 1)) (U5 port)),by rw[e2];kernel_rfl⟩
 obtain⟨x,hf⟩:=hf
 have hm:=hR.shape.most
 have hn1:n+0<512:=by omega
 have hn2:n+2<=600:=by omega
 obtain⟨-,x',b1⟩:=Qf (z:=8) hR.bytes (by have:=hR.len;omega) hR.prt hm hrun hx hv (st:=0) 600 600 x hn1 hn2 Ua hM hg
 obtain⟨c1,c2⟩:=qj x' o1 o2 (AE l) (AH pk) l.length pk.length port rf (pc:Int) ((0+n+1:Nat):Int)
 obtain⟨e',t3,M3,d1,d2⟩:=H.codeO_H (H:=hT (some (AH pk))) (o:=oX) (P:=Tryz.prog) (K:=kp) (G:=1) (j:=20) (n:=84) (k:=600) (c:=Dl ((items Sm).drop 7)) (t:=AB 84 (up x' (Oa 8 14))) (g:=λe t m=>(e,DM Tryz.prog t m Tryz.f15.results.toList,m)) cR U9 c1 c2 (by
  intro q hq;obtain rfl:=List.mem_singleton.1 hq;exact Jq hne hR.len)
 have f1:e'=_:=congrArg (λx=>x.1) d2
 have f2:DM Tryz.prog t3 M3 Tryz.f15.results.toList=_:=congrArg (λx=>x.2.1) d2
 have f3:M3=_:=congrArg (λx=>x.2.2) d2
 simp only at f1 f3
 have hnv:nv (rf 0)=v:=by rw[hv];rfl
 rw[e1]at a1
 rw[f1]at d1
 rw[hf]at a1
 rw[←e3]at d1
 refine⟨(pc:Int),((0+n+1:Nat):Int),rf,(L7 rfl a1 b1 d1 f2).trans ?_⟩
 rw[f3,hnv]
 kernel_rfl
theorem ur(hR:Ly l [] port v):
  ∃pc st regs,Co Tryz.prog kp 1 Y9 600 15 (Fo l.length (Gu 4 0 none) port) (mS gl (O8 o1 o2 (AE l) l.length))=
   some (.tuple ⟨[.agg ⟨JG pc v st (Gu 18 0 none)⟩, .int .i64 0]⟩,mS gl (O8 o1 o2 (AE l) l.length++So (AE l) l.length port 5 (AR regs) pc st v)):=by
 obtain⟨pc,n,rf,hrun,hx,hv,hn⟩:=hR.runs
 obtain⟨q1,q2⟩:=qe o1 o2 (AE l) l.length port
 obtain⟨e,t1,M1,a1,a2⟩:=H.codeO_H (H:=hA (AE l) none) (o:=oX) (P:=Tryz.prog) (K:=kp) (G:=1) (j:=20) (n:=84) (k:=600) (c:=Dl ((items Sm).take 6)) (t:=AB 84 (Bq (Fo l.length (Gu 4 0 none) port))) (m:=mS gl (O8 o1 o2 (AE l) l.length)) (g:=λe t m=>(e,t,m)) OI L8 q1 q2 (by
  intro q hq;simp only[List.mem_cons,List.not_mem_nil,or_false]at hq;rcases hq with rfl|rfl|rfl|rfl
  ·exact Ub hR.shape o1 _
  ·exact Uc hR.len
  ·exact L9 hR.shape.pos hR.shape.most
  ·exact Qg)
 have e1:e=_:=congrArg (λx=>x.1) a2
 have e2:t1=_:=congrArg (λx=>x.2.1) a2
 have e3:M1=_:=congrArg (λx=>x.2.2) a2
 simp only at e1 e2 e3
 have hM:L6 M1 12 15 11 10 13 16 17 l []:=by
  rw[e3];have hz:(mS gl (O8 o1 o2 (AE l) l.length++Y8 (AE l) l.length port 5 (AR Du) 0 0 false)).size=18:=by kernel_rfl
  refine⟨DY _,by kernel_rfl,by rw[hz];decide,?_,by decide,by decide,by kernel_rfl,by kernel_rfl,by kernel_rfl,by kernel_rfl,by kernel_rfl,by kernel_rfl⟩;intro b hb;rw[hz]
  revert b
  decide
 have hg:M1.get 12=FN 13 15 10 11 16 17 l.length ([]:List Int).length none port (AR Du) ((0:Nat):Int) ((0:Nat):Int) false:=by rw[e3];kernel_rfl
 have hf:∃x,t1=AB 84 (up x (Oa 7 12)):=⟨up (Bq (Fo l.length (Gu 4 0 none) port)) (tM 5 12 (Eu (A6 1 l.length)) (Gu 4 0 none) (U5 port)),by rw[e2];kernel_rfl⟩
 obtain⟨x,hf⟩:=hf
 have hm:=hR.shape.most
 have hn1:n+0<512:=by omega
 have hn2:n+2<=600:=by omega
 obtain⟨-,x',b1⟩:=Qf (z:=7) hR.bytes (by have:=hR.len;omega) hR.prt hm hrun hx hv (st:=0) 600 600 x hn1 hn2 Ua hM hg
 obtain⟨c1,c2⟩:=qk x' o1 o2 (AE l) l.length port rf (pc:Int) ((0+n+1:Nat):Int)
 obtain⟨e',t3,M3,d1,d2⟩:=H.codeO_H (H:=hT none) (o:=oX) (P:=Tryz.prog) (K:=kp) (G:=1) (j:=20) (n:=84) (k:=600) (c:=Dl ((items Sm).drop 7)) (t:=AB 84 (up x' (Oa 7 12))) (g:=λe t m=>(e,DM Tryz.prog t m Tryz.f15.results.toList,m)) cR U9 c1 c2 (by simp)
 have f1:e'=_:=congrArg (λx=>x.1) d2
 have f2:DM Tryz.prog t3 M3 Tryz.f15.results.toList=_:=congrArg (λx=>x.2.1) d2
 have f3:M3=_:=congrArg (λx=>x.2.2) d2
 simp only at f1 f3
 have hnv:nv (rf 0)=v:=by rw[hv];rfl
 rw[e1]at a1
 rw[f1]at d1
 rw[hf]at a1
 rw[←e3]at d1
 refine⟨(pc:Int),((0+n+1:Nat):Int),rf,(L7 rfl a1 b1 d1 f2).trans ?_⟩
 rw[f3,hnv]
 kernel_rfl
theorem uu(hR:Ly l [] port v):
  ∃pc st regs,Co Tryz.prog kp 1 Y9 600 15 (Fo l.length (Gu 3 0 none) port) (mS gl (O9 o1 (AE l) l.length))=
   some (.tuple ⟨[.agg ⟨JG pc v st (Gu 17 0 none)⟩, .int .i64 0]⟩,mS gl (O9 o1 (AE l) l.length++So (AE l) l.length port 4 (AR regs) pc st v)):=by
 obtain⟨pc,n,rf,hrun,hx,hv,hn⟩:=hR.runs
 obtain⟨q1,q2⟩:=qf o1 (AE l) l.length port
 obtain⟨e,t1,M1,a1,a2⟩:=H.codeO_H (H:=hA (AE l) none) (o:=oX) (P:=Tryz.prog) (K:=kp) (G:=1) (j:=20) (n:=84) (k:=600) (c:=Dl ((items Sm).take 6)) (t:=AB 84 (Bq (Fo l.length (Gu 3 0 none) port))) (m:=mS gl (O9 o1 (AE l) l.length)) (g:=λe t m=>(e,t,m)) OI L8 q1 q2 (by
  intro q hq;simp only[List.mem_cons,List.not_mem_nil,or_false]at hq;rcases hq with rfl|rfl|rfl|rfl
  ·exact Ub hR.shape o1 _
  ·exact Uc hR.len
  ·exact L9 hR.shape.pos hR.shape.most
  ·exact Qg)
 have e1:e=_:=congrArg (λx=>x.1) a2
 have e2:t1=_:=congrArg (λx=>x.2.1) a2
 have e3:M1=_:=congrArg (λx=>x.2.2) a2
 simp only at e1 e2 e3
 have hM:L6 M1 11 14 10 9 12 15 16 l []:=by
  rw[e3];have hz:(mS gl (O9 o1 (AE l) l.length++Y8 (AE l) l.length port 4 (AR Du) 0 0 false)).size=17:=by kernel_rfl
  refine⟨DY _,by kernel_rfl,by rw[hz];decide,?_,by decide,by decide,by kernel_rfl,by kernel_rfl,by kernel_rfl,by kernel_rfl,by kernel_rfl,by kernel_rfl⟩;intro b hb;rw[hz]
  revert b
  decide
 have hg:M1.get 11=FN 12 14 9 10 15 16 l.length ([]:List Int).length none port (AR Du) ((0:Nat):Int) ((0:Nat):Int) false:=by rw[e3];kernel_rfl
 have hf:∃x,t1=AB 84 (up x (Oa 6 11)):=⟨up (Bq (Fo l.length (Gu 3 0 none) port)) (tM 4 11 (Eu (A6 1 l.length)) (Gu 3 0 none) (U5 port)),by rw[e2];kernel_rfl⟩
 obtain⟨x,hf⟩:=hf
 have hm:=hR.shape.most
 have hn1:n+0<512:=by omega
 have hn2:n+2<=600:=by omega
 obtain⟨-,x',b1⟩:=Qf (z:=6) hR.bytes (by have:=hR.len;omega) hR.prt hm hrun hx hv (st:=0) 600 600 x hn1 hn2 Ua hM hg
 obtain⟨c1,c2⟩:=ql x' o1 (AE l) l.length port rf (pc:Int) ((0+n+1:Nat):Int)
 obtain⟨e',t3,M3,d1,d2⟩:=H.codeO_H (H:=hT none) (o:=oX) (P:=Tryz.prog) (K:=kp) (G:=1) (j:=20) (n:=84) (k:=600) (c:=Dl ((items Sm).drop 7)) (t:=AB 84 (up x' (Oa 6 11))) (g:=λe t m=>(e,DM Tryz.prog t m Tryz.f15.results.toList,m)) cR U9 c1 c2 (by simp)
 have f1:e'=_:=congrArg (λx=>x.1) d2
 have f2:DM Tryz.prog t3 M3 Tryz.f15.results.toList=_:=congrArg (λx=>x.2.1) d2
 have f3:M3=_:=congrArg (λx=>x.2.2) d2
 simp only at f1 f3
 have hnv:nv (rf 0)=v:=by rw[hv];rfl
 rw[e1]at a1
 rw[f1]at d1
 rw[hf]at a1
 rw[←e3]at d1
 refine⟨(pc:Int),((0+n+1:Nat):Int),rf,(L7 rfl a1 b1 d1 f2).trans ?_⟩
 rw[f3,hnv]
 kernel_rfl
end
noncomputable def oE:CX:=λf a M=>if f=15 then Co Tryz.prog kp 1 Y9 600 15 a M else none
noncomputable def hJ(P:Option (List Value))(e:List Value)(new:List BH)(s:ByteArray):H.Hint where
 ix _:=false
 ld _ _ _:=none
 cmp op t:=cond (Nat.beq t 9) (BinOp.rec (motive:=λ_=>Option Bool) none none none none none none none none none none none (some true) none none none none none op) none
 ap t:=cond (Nat.beq t 23) P none
 call f:=cond (Nat.beq f 15) (some (.tuple ⟨[.agg ⟨e⟩, .int .i64 0]⟩)) none
 spec _ _ _ _:=False
 blk:=0
 eff _ m:=new.foldl Mem.push m
 specM _:=some λargs m v=>oE 15 args m=some (v,new.foldl Mem.push m)
 cv a b:=cond (Nat.beq a 23 && Nat.beq b 9) (some (.string s)) none
noncomputable def rO(P:Option (List Value))(e:List Value)(new:List BH)(s:ByteArray)(n:Nat)(pv:Value)(port:Int)(M:Mem):Option (H.TT (Value×BH×BH×BH)):=
 H.callT (hJ P e new s) Tryz.prog kp 1 20 9 [Eu (A6 1 n),pv, .int .u32 port] M λv m=>some ((v,m.get 0,m.get 1,m.get 2),[],[])
noncomputable def zE(n:Nat)(pv:Value)(port:Int)(M:Mem)(e:List Value)(new:List BH):Prop:=oE 15 (Fo n pv port) M=some (.tuple ⟨[.agg ⟨e⟩, .int .i64 0]⟩,new.foldl Mem.push M)
noncomputable def nX(x:BH)(v:Value)(s:ByteArray):Prop:=H.cvOk Tryz.prog x 23 9 v (.string s)
noncomputable def wQ(s:ByteArray):Prop:=BY Tryz.prog kp .eql 9 (.string s) (.string s)=some (.bool true)
noncomputable def jv(v:Int):Value:= .tuple ⟨[.int .u64 v, .bool true]⟩
theorem rQ(o1 o2:Bool)(L P:List Value)(n np cap:Nat)(sp:Option Nat)(port:Int)(regs:List Value)(pc st v:Int)(s:ByteArray):
  Rn (rO (some P) (JG pc v st (Gu 21 np (some 1))) (kD L P n np port 6 regs pc st v) s n (.slice (some ⟨2,0,sp⟩) np cap) port (mS gl [.cells o1 L, .cells o2 P])) ((jv v, .cells false gl, .cells o1 L, .cells o2 P),[H.apOk (.cells o2 P) 0 1 1 np P,zE n (Gu 5 np (some 1)) port (mS gl (O7 o1 o2 L P n)) (JG pc v st (Gu 21 np (some 1))) (kD L P n np port 6 regs pc st v),nX (.cells true P) (Gu 21 np (some 1)) s,nX (.cells o2 P) (.slice (some ⟨2,0,sp⟩) np cap) s,wQ s]):=⟨by kernel_rfl,by kernel_rfl⟩
theorem rR(o1 o2:Bool)(L:List Value)(n cap:Nat)(sp:Option Nat)(port:Int)(regs:List Value)(pc st v:Int)(s:ByteArray):
  Rn (rO none (JG pc v st (Gu 18 0 none)) (So L n port 5 regs pc st v) s n (.slice (some ⟨2,0,sp⟩) 0 cap) port (mS gl [.cells o1 L, .cells o2 []])) ((jv v, .cells false gl, .cells o1 L, .cells o2 []),[zE n (Gu 4 0 none) port (mS gl (O8 o1 o2 L n)) (JG pc v st (Gu 18 0 none)) (So L n port 5 regs pc st v),nX GV (Gu 18 0 none) s,nX (.cells o2 []) (.slice (some ⟨2,0,sp⟩) 0 cap) s,wQ s]):=⟨by kernel_rfl,by kernel_rfl⟩
theorem rS(o1:Bool)(L:List Value)(n:Nat)(port:Int)(regs:List Value)(pc st v:Int)(s:ByteArray):
  Rn (rO none (JG pc v st (Gu 17 0 none)) (So L n port 4 regs pc st v) s n (.slice none 0 0) port (mS gl [.cells o1 L])) ((jv v, .cells false gl, .cells o1 L, .cells true (I2 (A6 1 n))),[zE n (Gu 3 0 none) port (mS gl (O9 o1 L n)) (JG pc v st (Gu 17 0 none)) (So L n port 4 regs pc st v),nX GV (Gu 17 0 none) s,nX (.cells false gl) (.slice none 0 0) s,wQ s]):=⟨by kernel_rfl,by kernel_rfl⟩
theorem rT{f:FuncId}(h:f≠15)(a:List Value)(M:Mem):oE f a M=none:=if_neg h
theorem Uj:B9 oE:=λf a M v M' h=>by
 unfold oE at h
 split at h
 case isFalse=>cases h
 rename_i e
 subst e
 exact GD (CL Qe 20) 600 15 a M v M' h
theorem vU(hW:E3)(B0:Nat):CU Tryz.prog B0 1 oE:=by
 have ih:=HL Bw hK Ee (Cr Bw hK Ee (um hW B0) Qe 20) (CL Qe 20) 600
 refine⟨λf a M v M' h=>(Uj f a M v M' h).size,λf a M v M' h=>?_,λf a M v M' h=>?_⟩
 all_goals
  unfold oE at h;split at h
  case isFalse=>cases h
  rename_i e;subst e
 ·exact ih.ok _ _ _ _ _ h
 ·exact ih.body _ _ _ _ _ h
def Lc(n n':Nat)(port:Int)(pv:Value)(ss:List BH):Option (Value×Mem):=
 CJ Tryz.prog kp 1 oE 20 9 [.agg ⟨[.slice none 0 0, .slice (some ⟨1,0,some 5⟩) n n']⟩,pv, .int .u32 port] (mS gl ss)
open Classical in
noncomputable def dR:CX:=λf a M=>match a with
 | [.agg ⟨[.slice none 0 0, .slice (some ⟨c,0,some 5⟩) n n']⟩, .slice (some ⟨k,0,sp⟩) np cap, .int .u32 port]=>if f=9/\Fits gl [c,k] [M.get c,M.get k] M then
   (match Lc n n' port (.slice (some ⟨2,0,sp⟩) np cap) [M.get c,M.get k]with
    |some (.tuple ⟨[.int .u64 z, .bool b]⟩,m)=>if m.get 0= .cells false gl/\m.get 1=M.get c/\m.get 2=M.get k then some (.tuple ⟨[.int .u64 z, .bool b]⟩,M)else none
    |_=>none)else none
 | [.agg ⟨[.slice none 0 0, .slice (some ⟨c,0,some 5⟩) n n']⟩, .slice none 0 0, .int .u32 port]=>if f=9/\Fits gl [c] [M.get c] M then
   (match Lc n n' port (.slice none 0 0) [M.get c]with
    |some (.tuple ⟨[.int .u64 z, .bool b]⟩,m)=>if m.get 0= .cells false gl/\m.get 1=M.get c then some (.tuple ⟨[.int .u64 z, .bool b]⟩,M)else none
    |_=>none)else none
 |_=>none
theorem P4(z:Int)(b:Bool):Free (.tuple ⟨[.int .u64 z, .bool b]⟩):=FF (by
 intro x hx
 have hx:x∈ [Value.int .u64 z,Value.bool b]:=hx
 simp only[List.mem_cons,List.not_mem_nil,or_false]at hx
 rcases hx with rfl|rfl
 ·exact CH _ _
 ·exact Dn _)
theorem OM(hW:E3){B0:Nat}{f:FuncId}{a:List Value}{M M':Mem}{v:Value}(h:dR f a M=some (v,M')):f=9/\EJ Tryz.prog B0 1 f a M v M'/\EM M M':=by
 have hE:=Cr Bw hK Ee (vU hW B0) Uj 20
 have hG:=CL (P:=Tryz.prog) (K:=kp) (G:=1) Uj 20
 unfold dR at h
 split at h
 case h_3=>cases h
 ·rename_i c n n' k sp np cap port;by_cases hc:f=9/\Fits gl [c,k] [M.get c,M.get k] M
  case neg=>rw[if_neg hc]at h;cases h
  rw[if_pos hc]at h;obtain⟨rfl,hF⟩:=hc;split at h
  case h_2=>cases h
  rename_i z b m hR;by_cases hk:m.get 0= .cells false gl/\m.get 1=M.get c/\m.get 2=M.get k
  case neg=>rw[if_neg hk]at h;cases h
  rw[if_pos hk]at h;simp only[Option.some.injEq,Prod.mk.injEq]at h;obtain⟨rfl,rfl⟩:=h;refine⟨rfl,N4 (B0:=B0) CO hE hG hF hR ?_ ((P4 z b).embA _ _) hk.1 (λi s hi=>?_)⟩
  ·have h1:(λi=>Nat.blt i (1+ [c,k].length)) 1=true:=rfl;have h2:(λi=>Nat.blt i (1+ [c,k].length)) 2=true:=rfl;refine .cons (KN (.cons ((D9 _ _).sim _ _) (.cons (Da (ρ:=DH [c,k] M) h1) .nil))) (.cons ?_ (.cons ((CH _ _).sim _ _) .nil));cases sp with
   |none=>exact KM (ρ:=DH [c,k] M) h2
   |some e=>exact Da (ρ:=DH [c,k] M) h2
  ·rcases i with _|_|i
   ·cases hi;exact hk.2.1
   ·cases hi;exact hk.2.2
   ·cases hi
 ·rename_i c n n' port;by_cases hc:f=9/\Fits gl [c] [M.get c] M
  case neg=>rw[if_neg hc]at h;cases h
  rw[if_pos hc]at h;obtain⟨rfl,hF⟩:=hc;split at h
  case h_2=>cases h
  rename_i z b m hR;by_cases hk:m.get 0= .cells false gl/\m.get 1=M.get c
  case neg=>rw[if_neg hk]at h;cases h
  rw[if_pos hk]at h;simp only[Option.some.injEq,Prod.mk.injEq]at h;obtain⟨rfl,rfl⟩:=h;refine⟨rfl,N4 (B0:=B0) CO hE hG hF hR ?_ ((P4 z b).embA _ _) hk.1 (λi s hi=>?_)⟩
  ·have h1:(λi=>Nat.blt i (1+ [c].length)) 1=true:=rfl;exact .cons (KN (.cons ((D9 _ _).sim _ _) (.cons (Da (ρ:=DH [c] M) h1) .nil))) (.cons ((D9 _ _).sim _ _) (.cons ((CH _ _).sim _ _) .nil))
  ·rcases i with _|i
   ·cases hi;exact hk.2
   ·cases hi
theorem Wz(hW:E3):B9 dR:=λf a M v M' h=>(OM hW (B0:=0) h).2.2
theorem rU(hW:E3)(B0:Nat):CU Tryz.prog B0 1 dR:=⟨λf a M v M' h=>(Wz hW f a M v M' h).size,λf a M v M' h=>(OM hW h).2.1,λf a M v M' h=>by
 obtain rfl:=(OM hW (B0:=0) h).1
 exact hasB (by kernel_rfl)⟩
noncomputable def vV(pk:List Int):ByteArray:=⟨(pk.map λn=>UInt8.ofNat n.toNat).toArray⟩
theorem JS:∀pk:List Int,El (AH pk)=some (pk.map λn=>UInt8.ofNat n.toNat)
 | []=>rfl
 |n::pk=>by
  show(match Go.DI.byteOf (.int .u8 n)with|some b=>(match El (AH pk)with|some r=>some (b::r)|none=>none)|none=>none)=_;rw[JS pk];rfl
theorem nY:Tryz.prog.underlying 23=some (.slice 5):=by kernel_rfl
theorem vW:Tryz.prog.underlying 9=some .string:=by kernel_rfl
theorem vX:Tryz.prog.underlying 5=some (.int .u8):=by kernel_rfl
theorem ON{o:Bool}{pk:List Int}{b:Nat}{sp:Option Nat}{c:Nat}:nX (.cells o (AH pk)) (.slice (some ⟨b,0,sp⟩) pk.length c) (vV pk):=λm hm=>by
 have hm:m.get b= .cells o (AH pk):=hm
 have hl:(AH pk).length=pk.length:=Hk pk
 unfold IN
 rw[nY,vW]
 simp only
 rw[vX]
 simp only
 have:DK m b 0 pk.length=some (AH pk):=IE (rest:= []) (by rw[List.append_nil];exact hm) hl
 rw[this]
 simp only
 rw[JS]
 rfl
theorem ks{x:BH}:nX x (.slice none 0 0) (vV []):=λm _=>by
 unfold IN
 rw[nY,vW]
 simp only
 rw[vX]
 rfl
theorem Uk(s:ByteArray):wQ s:=by
 show some (Value.bool (s.toList==s.toList))=_
 rw[beq_self_eq_true]
theorem dT{P:Option (List Value)}{e:List Value}{new:List BH}{s:ByteArray}(f:FuncId)(v:Value)(args:List Value)(m:Mem)(hc:(hJ P e new s).call f=some v)(hs:(hJ P e new s).says f args m v):oE f args m=some (v,(hJ P e new s).eff f m):=by
 by_cases e15:f=15
 ·subst e15;exact hs
 ·have e1:Nat.beq f 15=false:=by cases hb:Nat.beq f 15 with
   |false=>rfl
   |true=>exact absurd (Nat.eq_of_beq_eq_true hb) e15
  have hc:cond (Nat.beq f 15) _ none=some v:=hc;rw[e1]at hc;cases hc
theorem Ul{P:Option (List Value)}{e:List Value}{new:List BH}{s:ByteArray}(f:FuncId)(hc:(hJ P e new s).call f=none)(a:List Value)(m:Mem):oE f a m=none:=
 rT (by rintro rfl;cases hc) a m
theorem Um(a b:List BH):mS gl (a++b)=b.foldl Mem.push (mS gl a):=List.foldl_append ..
section
variable{l:List Bb}{pk:List Int}{port v:Int}{o1 o2:Bool}
theorem rV(hR:Ly l pk port v)(hne:pk≠ [])(sp:Option Nat)(cap:Nat):
  ∃m,Lc l.length l.length port (.slice (some ⟨2,0,sp⟩) pk.length cap) [.cells o1 (AE l), .cells o2 (AH pk)]=some (jv v,m)/\m.get 0= .cells false gl/\m.get 1= .cells o1 (AE l)/\m.get 2= .cells o2 (AH pk):=by
 obtain⟨pc,st,regs,hx⟩:=uq (o1:=o1) (o2:=o2) hR hne
 obtain⟨q1,q2⟩:=rQ o1 o2 (AE l) (AH pk) l.length pk.length cap sp port (AR regs) pc st v (vV pk)
 obtain⟨v',m,a1,a2⟩:=H.callO_H (o:=oE) (P:=Tryz.prog) (K:=kp) (G:=1) (k:=20) (f:=9) (g:=λv m=>(v,m.get 0,m.get 1,m.get 2)) dT Ul q1 q2 (by
  intro q hq;simp only[List.mem_cons,List.not_mem_nil,or_false]at hq;rcases hq with rfl|rfl|rfl|rfl|rfl
  ·exact Jq hne hR.len
  ·show oE 15 _ _=_;rw[←Um];exact(if_pos rfl).trans hx
  ·exact ON
  ·exact ON
  ·exact Uk _)
 have e1:v'=_:=congrArg (λx=>x.1) a2
 have e2:m.get 0=_:=congrArg (λx=>x.2.1) a2
 have e3:m.get 1=_:=congrArg (λx=>x.2.2.1) a2
 have e4:m.get 2=_:=congrArg (λx=>x.2.2.2) a2
 exact⟨m,a1.trans (by rw[e1]),e2,e3,e4⟩
theorem rW(hR:Ly l [] port v)(sp:Option Nat)(cap:Nat):
  ∃m,Lc l.length l.length port (.slice (some ⟨2,0,sp⟩) 0 cap) [.cells o1 (AE l), .cells o2 []]=some (jv v,m)/\m.get 0= .cells false gl/\m.get 1= .cells o1 (AE l)/\m.get 2= .cells o2 []:=by
 obtain⟨pc,st,regs,hx⟩:=ur (o1:=o1) (o2:=o2) hR
 obtain⟨q1,q2⟩:=rR o1 o2 (AE l) l.length cap sp port (AR regs) pc st v (vV [])
 obtain⟨v',m,a1,a2⟩:=H.callO_H (o:=oE) (P:=Tryz.prog) (K:=kp) (G:=1) (k:=20) (f:=9) (g:=λv m=>(v,m.get 0,m.get 1,m.get 2)) dT Ul q1 q2 (by
  intro q hq;simp only[List.mem_cons,List.not_mem_nil,or_false]at hq;rcases hq with rfl|rfl|rfl|rfl
  ·show oE 15 _ _=_;rw[←Um];exact(if_pos rfl).trans hx
  ·exact ON (pk:= [])
  ·exact ON (pk:= [])
  ·exact Uk _)
 have e1:v'=_:=congrArg (λx=>x.1) a2
 have e2:m.get 0=_:=congrArg (λx=>x.2.1) a2
 have e3:m.get 1=_:=congrArg (λx=>x.2.2.1) a2
 have e4:m.get 2=_:=congrArg (λx=>x.2.2.2) a2
 exact⟨m,a1.trans (by rw[e1]),e2,e3,e4⟩
theorem rX(hR:Ly l [] port v):
  ∃m,Lc l.length l.length port (.slice none 0 0) [.cells o1 (AE l)]=some (jv v,m)/\m.get 0= .cells false gl/\m.get 1= .cells o1 (AE l):=by
 obtain⟨pc,st,regs,hx⟩:=uu (o1:=o1) hR
 obtain⟨q1,q2⟩:=rS o1 (AE l) l.length port (AR regs) pc st v (vV [])
 obtain⟨v',m,a1,a2⟩:=H.callO_H (o:=oE) (P:=Tryz.prog) (K:=kp) (G:=1) (k:=20) (f:=9) (g:=λv m=>(v,m.get 0,m.get 1,m.get 2)) dT Ul q1 q2 (by
  intro q hq;simp only[List.mem_cons,List.not_mem_nil,or_false]at hq;rcases hq with rfl|rfl|rfl|rfl
  ·show oE 15 _ _=_;rw[←Um];exact(if_pos rfl).trans hx
  ·exact ON (pk:= [])
  ·exact ks
  ·exact Uk _)
 have e1:v'=_:=congrArg (λx=>x.1) a2
 have e2:m.get 0=_:=congrArg (λx=>x.2.1) a2
 have e3:m.get 1=_:=congrArg (λx=>x.2.2.1) a2
 exact⟨m,a1.trans (by rw[e1]),e2,e3⟩
def vY(M:Mem)(c:Nat)(pv:Value)(pk:List Int):Prop:=(pv= .slice none 0 0/\pk= [])\/∃k sp cap o,pv= .slice (some ⟨k,0,sp⟩) pk.length cap/\k<M.size/\k≠0/\k≠c/\M.get k= .cells o (AH pk)
theorem Ye{M:Mem}{c:Nat}{pv:Value}(hR:Ly l pk port v)(hM:M.top)(h0:M.get 0= .cells false gl)(h1:1<=M.size)(hc:c<M.size)(hc0:c≠0)(gc:M.get c= .cells o1 (AE l))(hp:vY M c pv pk):
  dR 9 [Eu (A6 c l.length),pv, .int .u32 port] M=some (jv v,M):=by
 rcases hp with⟨rfl,rfl⟩|⟨k,sp,cap,o2,rfl,hk,hk0,hkc,gk⟩
 ·obtain⟨m,a1,a2,a3⟩:=rX (o1:=o1) hR;show dR 9 [.agg ⟨[.slice none 0 0, .slice (some ⟨c,0,some 5⟩) l.length l.length]⟩, .slice none 0 0, .int .u32 port] M=_;unfold dR;simp only;rw[if_pos ⟨rfl,Wi hM h0 h1 hc hc0 gc⟩,gc,a1];exact if_pos ⟨a2,a3⟩
 ·show dR 9 [.agg ⟨[.slice none 0 0, .slice (some ⟨c,0,some 5⟩) l.length l.length]⟩, .slice (some ⟨k,0,sp⟩) pk.length cap, .int .u32 port] M=_;unfold dR;simp only;rw[if_pos ⟨rfl,vZ hM h0 h1 hc hk hc0 hk0 (Ne.symm hkc) gc gk⟩,gc,gk];by_cases hne:pk= []
  ·subst hne;obtain⟨m,a1,a2,a3,a4⟩:=rW (o1:=o1) (o2:=o2) hR sp cap;have a1:Lc l.length l.length port (.slice (some ⟨2,0,sp⟩) ([]:List Int).length cap) [.cells o1 (AE l), .cells o2 (AH [])]=some (jv v,m):=a1;rw[a1];exact if_pos ⟨a2,a3,a4⟩
  ·obtain⟨m,a1,a2,a3,a4⟩:=rV (o1:=o1) (o2:=o2) hR hne sp cap;rw[a1];exact if_pos ⟨a2,a3,a4⟩
end
end
end Go.Proofs.YtgjflcgmieiafaaGreatDoor
namespace Go.DI
noncomputable section
abbrev FR(l:Nat):Fence:=Fence.wide.inRound l
section
variable{P:Program}{l n:Nat}{Q:Exit->Act->World->Prop}{a:Act}{w:World}
theorem bE:(FR l).depth.isSome=true->1<=n:=λh=>by cases h
theorem uV{row:String}{args:Array Value}{R:Value->World->Prop}(h:Rows P row args w R):RowsIn (FR l) n P row args w R:=λc cs _=>
 let⟨v,w',r,s⟩:=h c cs
 ⟨v,w',r,stepsIn_wide.2 s⟩
def Hb(o:Oper):Bool:=match o.op with| .defer _=>false|_=>true
theorem uW{o:Oper}{next:Act->World->Prop}(hd:Hb o=true)(h:o.wp P a w next Q):o.wpIn (FR l) n P a w next Q:=by
 refine⟨λ_ _=>trivial,?_⟩
 have e:Oper.semAt (FR l).round a.eval o=execOp a.eval o:=Oper.semAt_some l _ _ (by intro c hc;simp[Hb,hc]at hd)
 rw[e]
 unfold Oper.wp at h
 generalize (execOp a.eval o).run P w=r at*
 cases r with
 |ok x w'=>
  cases x<;>simp only[Oper.upon,Oper.uponIn]at h ⊢ <;>
   first
    |exact h
    |exact h.elim
    |exact⟨bE,(callsIn_wide.2 h).mono (λe w'' he=>by cases e<;>exact he)⟩
    |exact⟨bE,uV h⟩
 |halt x w'=>cases x<;>simp only[Oper.upon,Oper.uponIn]at h ⊢ <;>exact h
theorem Vu(hQ:¬LetsOut Q){ops:Array Oper}(hd:ops.toList.all Hb=true):∀(is:List Nat) (a:Act) (w:World),wpOps P ops Q is a w->wpOpsIn (FR l) n P ops Q is a w
 | [],a,w,h=>h
 |i::rest,a,w,h=>by
  simp only[wpOps]at h;simp only[wpOpsIn];cases ho:ops[i]? with
  |none=>rw[ho]at h;exact Vu hQ hd rest a w h
  |some o=>
   rw[ho]at h;simp only at h ⊢;by_cases hw:Region.wanted o (yielded ops a.tmps)=true
   ·rw[if_pos hw]at h ⊢;have hdo:Hb o=true:=List.all_eq_true.1 hd o (by rw[←Array.getElem?_toList]at ho;exact List.mem_of_getElem? ho);rcases h with h|h
    ·exact uW hdo (Oper.wp_mono (λa w h=>Vu hQ hd rest a w h) h)
    ·exact absurd h.2 hQ
   ·rw[if_neg hw]at h ⊢;exact⟨λ_ _=>trivial,Vu hQ hd rest _ w h⟩
theorem Vv(hQ:¬LetsOut Q){md:Region.Mode}{ops:Array Oper}(hd:ops.toList.all Hb=true):∀(fuel:Nat) (listed:Array Bool) (a:Act) (w:World),wpAny P md ops Q fuel listed a w->wpAnyIn (FR l) n P md ops Q fuel listed a w
 |0,listed,a,w,h=>h
 |fuel+1,listed,a,w,h=>by
  refine⟨h.1,λi hi=>?_⟩;have h2:=h.2 i hi;unfold wpOp at h2;unfold wpOpIn;cases ho:ops[i]? with
  |none=>rw[ho]at h2;exact Vv hQ hd fuel _ a w h2
  |some o=>
   rw[ho]at h2;simp only at h2 ⊢;by_cases hw:Region.wanted o (yielded ops a.tmps)=true
   ·rw[if_pos hw]at h2 ⊢;have hdo:Hb o=true:=List.all_eq_true.1 hd o (by rw[←Array.getElem?_toList]at ho;exact List.mem_of_getElem? ho);rcases h2 with h2|h2
    ·exact uW hdo (Oper.wp_mono (λa w h=>Vv hQ hd fuel _ a w h) h2)
    ·exact absurd h2.2 hQ
   ·rw[if_neg hw]at h2 ⊢;exact⟨λ_ _=>trivial,Vv hQ hd fuel _ _ w h2⟩
end
def JO:Code->Bool
 | .skip=>true
 | .label _=>true
 | .region _ ops _=>ops.toList.all Hb
 | .seq a b=>JO a && JO b
 | .cond _ a b=>JO a && JO b
 | .block _ c=>JO c
 | .exit _=>true
 | .ret=>true
 |_=>false
section
variable{P:Program}{K:TypeId->Bool}{B0 G n:Nat}
theorem YU(Bw:P.follows .mixedOrders=true)(hK:Plain P K){cf:Cc}(hcf:CU P B0 G cf)(hg:B9 cf){k l d:Nat}:
  ∀(c:Code),JO c=true->∀(t:AF) (m:Mem) (e:Ex) (t':AF) (m':Mem),AJ P K G cf (AY P K G cf n) n k c t m=some (e,t',m')->
   ∀(ι:Ren) (w:World) (a:Act) (Q:Exit->Act->World->Prop),¬LetsOut Q->Rel B0 G ι m w->Bg ι n t a->FB ι m.size m'.size->(∀a' w',Em B0 G n ι m w a t' m' a' w'->Q e.to a' w')->c.wpIn (FR l) d P Q a w:=by
 intro c
 have hsz:=λc=>NQ (P:=P) (K:=K) (G:=G) (n:=n) (k:=k) hcf.size (LN (n:=n) Bw hK hcf hg).1 c
 induction c with
 |skip=>intro _ t m e t' m' h;simp[AJ]at h;obtain⟨rfl,rfl,rfl⟩:=h;intro ι w a Q hx hr ht hf hQ;exact wpIn_skip (hQ a w ⟨ι,ht,hr,ER.refl _ _ _,rfl⟩)
 |label l=>intro _ t m e t' m' h;simp[AJ]at h;obtain⟨rfl,rfl,rfl⟩:=h;intro ι w a Q hx hr ht hf hQ;exact wpIn_label (hQ a w ⟨ι,ht,hr,ER.refl _ _ _,rfl⟩)
 |region id ops draw=>
  intro hfl t m e t' m' h;simp only[AJ]at h;split at h<;>simp at h;rename_i t₁ m₁ h1;obtain⟨rfl,rfl,rfl⟩:=h;intro ι w a Q hx hr ht hf hQ;cases draw
  ·refine wpIn_region (Vu hx hfl _ _ _ ?_);have:=QI (Q:=Q) hK hcf (ops:=ops) ops.toList 0 (λj=>by simp) ι t m w a t₁ m₁ h1 hr ht hf hQ;rw[List.range_eq_range'];simpa using this
  ·exact wpIn_region_any Bw (Vv hx hfl _ _ _ _ (Rt hK hcf hg h1 hr ht hf hQ))
 |seq x y ihx ihy=>
  intro hfl t m e t' m' h;simp only[JO,Bool.and_eq_true]at hfl;simp only[AJ]at h;intro ι w a Q hx hr ht hf hQ;split at h
  ·rename_i t₁ m₁ h1;have s1:=hsz x _ _ _ _ _ h1;have s2:=hsz y _ _ _ _ _ h;refine wpIn_seq (ihx hfl.1 _ _ _ _ _ h1 ι w a _ hx hr ht (hf.sub (Nat.le_refl _) s2) λa₁ w₁ ha=>?_);obtain⟨ι₁,g1,g2,g3,g4⟩:=ha;simp only[Ex.to,Exit.then];exact ihy hfl.2 _ _ _ _ _ h ι₁ w₁ a₁ Q hx g2 g1 ((hf.sub s1 (Nat.le_refl _)).stp g3 (Nat.le_refl _)) λa₂ w₂ ha₂=>hQ a₂ w₂ (Em.trans g3 g4 ha₂)
  ·rename_i hne;refine wpIn_seq (ihx hfl.1 _ _ _ _ _ h ι w a _ hx hr ht hf λa₁ w₁ ha=>?_);have:=hQ a₁ w₁ ha;cases e with
   |normal=>exact absurd h (hne _ _)
   |exit id=>exact this
   |ret=>exact this
 |cond c x y ihx ihy=>
  intro hfl t m e t' m' h;simp only[JO,Bool.and_eq_true]at hfl;simp only[AJ]at h;intro ι w a Q hx hr ht hf hQ;split at h<;>try (simp at h;done)
  ·rename_i hc;exact wpIn_cond_true (B3 hr ht hc).inv_bool (ihx hfl.1 _ _ _ _ _ h ι w a Q hx hr ht hf hQ)
  ·rename_i hc;exact wpIn_cond_false (B3 hr ht hc).inv_bool (ihy hfl.2 _ _ _ _ _ h ι w a Q hx hr ht hf hQ)
 |block id c ih=>
  intro hfl t m e t' m' h;simp only[AJ]at h;intro ι w a Q hx hr ht hf hQ;split at h
  ·rename_i id' t₁ m₁ h1;split at h<;>simp at h
   ·rename_i he;obtain⟨rfl,rfl,rfl⟩:=h;refine wpIn_block (ih hfl _ _ _ _ _ h1 ι w a _ hx hr ht hf λa₁ w₁ ha=>?_);simp only[Ex.to,Exit.inBlock,he,if_true];exact hQ a₁ w₁ ha
   ·rename_i he;obtain⟨rfl,rfl,rfl⟩:=h;refine wpIn_block (ih hfl _ _ _ _ _ h1 ι w a _ hx hr ht hf λa₁ w₁ ha=>?_);simp only[Ex.to,Exit.inBlock,he,if_false];exact hQ a₁ w₁ ha
  ·rename_i hne;refine wpIn_block (ih hfl _ _ _ _ _ h ι w a _ hx hr ht hf λa₁ w₁ ha=>?_);have:=hQ a₁ w₁ ha;cases e with
   |normal=>exact this
   |exit id=>exact absurd h (hne _ _ _)
   |ret=>exact this
 |loop c ih=>intro hfl;cases hfl
 |exit id=>intro _ t m e t' m' h;simp[AJ]at h;obtain⟨rfl,rfl,rfl⟩:=h;intro ι w a Q hx hr ht hf hQ;exact wpIn_exit (hQ a w ⟨ι,ht,hr,ER.refl _ _ _,rfl⟩)
 |ret=>intro _ t m e t' m' h;simp[AJ]at h;obtain⟨rfl,rfl,rfl⟩:=h;intro ι w a Q hx hr ht hf hQ;exact wpIn_ret (hQ a w ⟨ι,ht,hr,ER.refl _ _ _,rfl⟩)
 |rangeFunc=>intro hfl;cases hfl
 |scope=>intro hfl;cases hfl
 |goto=>intro hfl;cases hfl
 |refuse=>intro hfl;cases hfl
end
end
end Go.DI
namespace Go.DI
open Go.RowKit
noncomputable section
structure St(B0:Nat)(w0:World)(ι:Ren)(m:Mem)(W:World):Prop where
 rel:Rel B0 1 ι m W
 fresh:∀b,m.size<=b->ι b=none
 below:Below w0.heap.size w0 W
 own:∀b L,ι b=some L->(m.get b).own=true->w0.heap.size<=L.block
def GF(m:Mem):Prop:=∀b,(m.get b).own=true->∃o c,m.get b= .cells o c
def FD(W W':World):Prop:=W.heap.size<=W'.heap.size/\∀(k:Nat) (o:Obj),W.heap[k]?=some o->o.isCells=false->W'.heap[k]?=some o
theorem FD.refl(W:World):FD W W:=⟨Nat.le_refl _,λ_ _ h _=>h⟩
theorem FD.trans{A B C:World}(h:FD A B)(g:FD B C):FD A C:=⟨Nat.le_trans h.1 g.1,λk o ho hc=>g.2 k o (h.2 k o ho hc) hc⟩
theorem FD.from{A B:World}(h:FD A B)(n:Nat):KeepsFrom n A B:=⟨h.1,λk o _ ho hc=>h.2 k o ho hc⟩
section
variable{P:Program}{K:TypeId->Bool}{B0 n:Nat}{w0 W:World}{ι:Ren}{m:Mem}{t:AF}{a:Act}
theorem St.fresh'(h:St B0 w0 ι m W)(y:Nat):FB ι m.size y:=λb h1 _=>h.fresh b h1
theorem St.after(h:St B0 w0 ι m W)(hc:GF m){ι':Ren}{m':Mem}{W':World}(hr:Rel B0 1 ι' m' W')(hs:ER ι ι' m m' W W'):St B0 w0 ι' m' W'/\FD W W':=by
 refine⟨⟨hr,λb hb=>?_,?_,λb L hL ho=>?_⟩,hs.hsize,λk o ho hno=>?_⟩
 ·rw[hs.out b (.inr hb)];exact h.fresh b (Nat.le_trans hs.msize hb)
 ·refine⟨hs.os.trans h.below.os,hs.tape.trans h.below.tape,hs.output.trans h.below.output,Nat.le_trans h.below.size hs.hsize,λk hk=>?_⟩;rw[←h.below.block k hk];refine hs.frame k (Nat.lt_of_lt_of_le hk h.below.size) λb L hb hL ho e=>?_;have:=h.own b L hL ho;omega
 ·rcases Nat.lt_or_ge b m.size with hb|hb
  ·exact h.own b L (by rw[←hs.out b (.inl hb)];exact hL) (hs.ownk b hb ho)
  ·rcases Nat.lt_or_ge b m'.size with hb'|hb'
   ·rcases hs.new b L hb hb' hL with g|⟨b0,L0,g1,g2,g3,g4⟩
    ·exact Nat.le_trans h.below.size g
    ·rw[←g4];exact h.own b0 L0 g2 g3
   ·rw[hs.out b (.inr hb'),h.fresh b hb]at hL;cases hL
 ·have hk:k<W.heap.size:=(Array.getElem?_eq_some_iff.1 ho).1;rw[hs.frame k hk λb L hb hL hw e=>?_]
  ·exact ho
  ·obtain⟨o',c,hg⟩:=hc b hw;have:=h.rel.blk b L hb hL;rw[hg]at this;obtain⟨rc,e1,fr,h1,_⟩:=this;rw[e,ho]at h1;cases h1;cases hno
theorem piece(Bw:P.follows .mixedOrders=true)(hK:Plain P K){cf:Cc}(hcf:CU P B0 1 cf)(hg:B9 cf){k d:Nat}{c:Code}{e:Ex}{t':AF}{m':Mem}
  (h:AJ P K 1 cf (AY P K 1 cf n) n k c t m=some (e,t',m')) (hs:St B0 w0 ι m W) (hc:GF m) (ht:Bg ι n t a) {Q:Exit->Act->World->Prop}
  (hQ:∀ι' a' W',St B0 w0 ι' m' W'->Bg ι' n t' a'->a'.defers=a.defers->(∀b,b<m.size->ι' b=ι b)->FD W W'->Q e.to a' W'):c.wpIn Fence.wide d P Q a W:=by
 refine wpIn_wide.2 (KJ hK hcf (LN Bw hK hcf hg) c t m e t' m' h ι W a Q hs.rel ht (hs.fresh' _) λa' W' ha=>?_)
 obtain⟨ι',g1,g2,g3,g4⟩:=ha
 obtain⟨h1,h2⟩:=hs.after hc g2 g3
 exact hQ ι' a' W' h1 g1 g4 (λb hb=>g3.out b (.inl hb)) h2
theorem j4(Bw:P.follows .mixedOrders=true)(hK:Plain P K){cf:Cc}(hcf:CU P B0 1 cf)(hg:B9 cf){k l d:Nat}{c:Code}(hfl:JO c=true){e:Ex}{t':AF}{m':Mem}
  (h:AJ P K 1 cf (AY P K 1 cf n) n k c t m=some (e,t',m')) (hs:St B0 w0 ι m W) (hc:GF m) (ht:Bg ι n t a) {Q:Exit->Act->World->Prop} (hx:¬LetsOut Q)
  (hQ:∀ι' a' W',St B0 w0 ι' m' W'->Bg ι' n t' a'->a'.defers=a.defers->(∀b,b<m.size->ι' b=ι b)->FD W W'->Q e.to a' W'):c.wpIn (FR l) d P Q a W:=by
 refine YU Bw hK hcf hg c hfl t m e t' m' h ι W a Q hx hs.rel ht (hs.fresh' _) λa' W' ha=>?_
 obtain⟨ι',g1,g2,g3,g4⟩:=ha
 obtain⟨h1,h2⟩:=hs.after hc g2 g3
 exact hQ ι' a' W' h1 g1 g4 (λb hb=>g3.out b (.inl hb)) h2
theorem St.cut(hs:St B0 w0 ι m W){z:Nat}(hz:z<=m.size)(h1:1<=z){mz:Mem}(hsz:mz.size=z)(ht:mz.top)(hget:∀b,b<z->mz.get b=m.get b)(hseen:∀b,b<z->Kit.okB (m.get b)/\Kit.seenB z (m.get b)):
  St B0 w0 (ι.sub id λi=>Nat.blt i z) mz W:=by
 have hin:∀b L,(ι.sub id λi=>Nat.blt i z) b=some L->b<z/\ι b=some L:=λb L h=>by
  obtain⟨g1,g2⟩:=Kit.sub_id _ _ _ _ h;exact⟨by simpa[Nat.blt_eq]using g1,g2⟩
 refine⟨⟨λb L hb hL=>?_,λb₁ b₂ L₁ L₂ b1 b2 e1 e2 l1 l2 g0 e=>?_,hs.rel.floor,λg hg=>?_,ht⟩,λb hb=>?_,hs.below,λb L hL ho=>?_⟩
 ·obtain⟨g1,g2⟩:=hin b L hL;obtain⟨k1,k2⟩:=hseen b g1;rw[hget b g1];have hb:=Kit.bsim_ren (ρ:=id) k1 k2;rw[Kit.renB_id k1]at hb;exact hb.rel _ _ _ _ (hs.rel.blk b L (by omega) g2)
 ·obtain⟨g1,g2⟩:=hin _ _ e1;obtain⟨k1,k2⟩:=hin _ _ e2;rw[hget _ g1]at l1;rw[hget _ k1]at l2;exact hs.rel.inj _ _ _ _ (by omega) (by omega) g2 k2 l1 l2 g0 e
 ·obtain⟨L,p1,p2⟩:=hs.rel.glob g hg;refine⟨L,?_,p2⟩;obtain rfl:g=0:=by omega
  show(if Nat.blt 0 z=true then ι 0 else none)=some L;rw[if_pos (by simp[Nat.blt_eq];omega)];exact p1
 ·show(if Nat.blt b z=true then ι b else none)=none;rw[if_neg (by simp[Nat.blt_eq];omega)]
 ·obtain⟨g1,g2⟩:=hin _ _ hL;rw[hget _ g1]at ho;exact hs.own _ _ g2 ho
theorem bt{ι ι':Ren}{z:Nat}(hf:∀b,z<=b->ι b=none)(he:∀b,b<z->ι' b=ι b):(ι'.sub id λi=>Nat.blt i z)=ι:=by
 funext b
 show(if Nat.blt b z=true then ι' b else none)=ι b
 by_cases h:b<z
 ·rw[if_pos (by simp[Nat.blt_eq];omega)];exact he b h
 ·rw[if_neg (by simp[Nat.blt_eq];omega)];exact(hf b (by omega)).symm
theorem St.grown(hs:St B0 w0 ι m W)(hc:∀b,(m.get b).live->∃o c,m.get b= .cells o c){W':World}{row:Option Nat}{B:Nat}(hB:w0.heap.size<=B)(hg:W.grownBy W' row)(hr:∀r,row=some r->B<=r/\∃o:Obj,W.heap[r]?=some o/\o.isCells=false):St B0 w0 ι m W':=by
 refine⟨⟨λb L hb hL=>?_,hs.rel.inj,Nat.le_trans hs.rel.floor hg.size,hs.rel.glob,hs.rel.top⟩,hs.fresh,⟨hg.os.trans hs.below.os,hg.tape.trans hs.below.tape,hg.output.trans hs.below.output,Nat.le_trans hs.below.size hg.size,λk hk=>?_⟩,hs.own⟩
 ·have hb0:=hs.rel.blk b L hb hL;refine hb0.monoL (λ_ _ h=>h) λhl=>?_;obtain⟨o,c,hgb⟩:=hc b hl;have hlt:=hb0.lt hl;refine hg.block _ hlt λe=>?_;obtain⟨_,o',ho',hno⟩:=hr _ e.symm;rw[hgb]at hb0;obtain⟨rc,e1,fr,h1,_⟩:=hb0;rw[h1]at ho';cases ho';cases hno
 ·rw[hg.block k (Nat.lt_of_lt_of_le hk hs.below.size) λe=>?_]
  ·exact hs.below.block k hk
  ·obtain⟨h1,_⟩:=hr _ e.symm;omega
end
section
variable{P:Program}{F:Fence}{n:Nat}{Q:Exit->Act->World->Prop}{a:Act}{w w':World}{ops:Array Oper}{rest:List Nat}{i:Nat}{o:Oper}{ρ:Operand->Value}
theorem run_move{x:Operand}(h:o.op= .move x):(execOp ρ o).run P w= .ok (.value (ρ x)) w:=by unfold execOp;rw[h];rfl
theorem run_assign{x:Operand}(h:o.op= .assign x):(execOp ρ o).run P w= .ok (.value (ρ x)) w:=by unfold execOp;rw[h];rfl
theorem WA{ty:TypeId}{x:Operand}{b:Bool}(h:o.op= .unOp .not ty x)(hx:ρ x= .bool b):(execOp ρ o).run P w= .ok (.value (.bool (!b))) w:=by
 unfold execOp;rw[h];simp only[hx];rfl
theorem SV{f:Operand}{args:Array Operand}{tys:Array TypeId}{l:Nat}(h:o.op= .call ⟨.value f,args,tys⟩)(hf:ρ f= .func (.yield l) #[] #[]):(execOp ρ o).run P w=(Instr.yield l (args.map ρ)).run P w:=by
 unfold execOp;rw[h]
 simp[resolve,hf,Deferred.ofValue,invoke]
theorem WB{v:Value}(ho:ops[i]?=some o)(hg:o.guard=none)(hF:∀f,F.fn f)(hr:(Oper.semAt F.round a.eval o).run P w= .ok (.value v) w')(h:wpOpsIn F n P ops Q rest (a.put o.dst v) w'):wpOpsIn F n P ops Q (i::rest) a w:=by
 simp only[wpOpsIn,ho]
 rw[if_pos (by simp[Region.wanted,hg])]
 refine⟨λf _=>hF f,?_⟩
 rw[hr]
 exact h
theorem Y1{l:Nat}{fn:FuncId}{tmps:Array Value}{assign body:Code}(ho:ops[i]?=some o)(hg:o.guard=none)(hF:∀f,F.fn f)(hd:F.depth=none)(hr:(Oper.semAt F.round a.eval o).run P w= .ok (.round l fn tmps assign body) w')
  (h:RoundIn F (n - 1) P l fn tmps assign body w' λe w''=>∃v,e= .returned v/\wpOpsIn F n P ops Q rest (a.put o.dst v) w''):wpOpsIn F n P ops Q (i::rest) a w:=by
 simp only[wpOpsIn,ho]
 rw[if_pos (by simp[Region.wanted,hg])]
 refine⟨λf _=>hF f,?_⟩
 rw[hr]
 refine⟨λg=>(by rw[hd]at g;cases g),h.mono ?_⟩
 rintro e w'' ⟨v,rfl,hv⟩
 exact hv
end
section
variable{P:Program}{n:Nat}{Q:Exit->Act->World->Prop}{a:Act}{w w':World}{ops:Array Oper}{rest:List Nat}{i:Nat}{o:Oper}
theorem SW{ρ:Operand->Value}:Oper.semAt Fence.wide.round ρ o=execOp ρ o:=Oper.semAt_none ρ o
theorem KW{v:Value}(ho:ops[i]?=some o)(hg:o.guard=none)(hr:(execOp a.eval o).run P w= .ok (.value v) w')(h:wpOpsIn Fence.wide n P ops Q rest (a.put o.dst v) w'):wpOpsIn Fence.wide n P ops Q (i::rest) a w:=
 WB ho hg (λ_=>trivial) (by rw[SW];exact hr) h
theorem UU{l:Nat}{fn:FuncId}{tmps:Array Value}{assign body:Code}(ho:ops[i]?=some o)(hg:o.guard=none)(hr:(execOp a.eval o).run P w= .ok (.round l fn tmps assign body) w')
  (h:RoundIn Fence.wide (n - 1) P l fn tmps assign body w' λe w''=>∃v,e= .returned v/\wpOpsIn Fence.wide n P ops Q rest (a.put o.dst v) w''):wpOpsIn Fence.wide n P ops Q (i::rest) a w:=
 Y1 ho hg (λ_=>trivial) rfl (by rw[SW];exact hr) h
end
section
variable{ι:Ren}{n:Nat}{t:AF}{a:Act}
theorem Bg.full(h:Bg ι n t a)(kn:List (Nat×Value))(hk:∀p∈kn,t.at p.1=p.2):∃x,Bg ι n (AB n (up x kn)) a:=by
 refine⟨λd=>t.at d,h.1,λd=>?_⟩
 rw[Kit.up_self _ kn hk,HU]
 by_cases hd:d<n
 ·rw[if_pos hd];exact h.2 d
 ·rw[if_neg hd,Array.getD_eq_getD_getElem?,Array.getElem?_eq_none (by rw[h.1];omega)];exact AZ.undef _
theorem Bg.int(h:Bg ι n t a){d:Nat}{k:IntKind}{z:Int}(hd:t.at d= .int k z):a.tmps.getD d undef= .int k z:=by
 have:=h.2 d
 rw[hd]at this
 generalize a.tmps.getD d undef=u at this ⊢
 cases this
 rfl
theorem Bg.bool(h:Bg ι n t a){d:Nat}{b:Bool}(hd:t.at d= .bool b):a.tmps.getD d undef= .bool b:=by
 have:=h.2 d
 rw[hd]at this
 generalize a.tmps.getD d undef=u at this ⊢
 cases this
 rfl
theorem Bg.yield(h:Bg ι n t a){d l:Nat}(hd:t.at d= .func (.yield l) #[] #[]):a.tmps.getD d undef= .func (.yield l) #[] #[]:=by
 have:=h.2 d
 rw[hd]at this
 generalize a.tmps.getD d undef=u at this ⊢
 cases this with
 |func fn x x' y y' hx hy=>
  have e1:x'= #[]:=Array.eq_empty_of_size_eq_zero hx.symm;have e2:y'= #[]:=Array.eq_empty_of_size_eq_zero hy.symm;rw[e1,e2]
theorem Nu(ι:Ren)(l:Nat):AZ ι (.func (.yield l) #[] #[]) (.func (.yield l) #[] #[]):= .func _ _ _ _ _ rfl rfl (λi x y hx=>by simp at hx) (λi x y hx=>by simp at hx)
end
theorem LV{ι:Ren}{args args':List Value}{nt:Nat}(hargs:Bd ι args args'):Bg ι (max args.length nt) (AB (max args.length nt) (Bq args)) {tmps:=args'.toArray++Array.replicate (nt - args'.toArray.size) undef,defers:= []}:=by
 have hlen:=hargs.length
 refine⟨by simp;omega,λd=>?_⟩
 rw[HU,Q1]
 cases hd:args[d]? with
 |some v=>
  obtain⟨y,hy,hry⟩:=hargs.get hd
  have hlt:d<args'.length:=by
   rcases Nat.lt_or_ge d args'.length with h1|h1
   ·exact h1
   ·rw[List.getElem?_eq_none h1]at hy;cases hy
  have hld:d<args.length:=(List.getElem?_eq_some_iff.1 hd).1
  have:(args'.toArray++Array.replicate (nt - args'.toArray.size) undef).getD d undef=y:=by
   rw[Array.getD_eq_getD_getElem?,Array.getElem?_append_left (by simpa using hlt),List.getElem?_toArray,hy];rfl
  rw[this,if_pos (by omega)];exact hry
 |none=>
  have hge:args.length<=d:=List.getElem?_eq_none_iff.1 hd
  have:(args'.toArray++Array.replicate (nt - args'.toArray.size) undef).getD d undef=undef:=by
   rw[Array.getD_eq_getD_getElem?,Array.getElem?_append_right (by simp;omega),Array.getElem?_replicate];split<;>rfl
  rw[this];split
  ·exact AZ.undef _
  ·exact AZ.undef _
theorem PS{B0 G:Nat}{ι:Ren}{m:Mem}{w W:World}(hr:Rel B0 G ι m w)(hb:Below w.heap.size w W):Rel B0 G ι m W:=
 ⟨λb L h1 h2=>(hr.blk b L h1 h2).monoL (λ_ _ h=>h) λhl=>hb.block _ ((hr.blk b L h1 h2).lt hl),hr.inj,Nat.le_trans hr.floor hb.size,hr.glob,hr.top⟩
theorem bL{P:Program}{ι ι':Ren}{m m':Mem}{W W':World}(hs:ER ι ι' m m' W W')(ho:∀b,(m.get b).own=false):W.grownBy W' none:=
 ⟨hs.os,hs.tape,hs.output,hs.hsize,λk hk _=>hs.frame k hk λb L _ _ h=>by rw[ho b]at h;cases h⟩
theorem bM{ι ι':Ren}{m:Mem}{W W':World}(hs:ER ι ι' m m W W'):ι'=ι:=by
 funext b
 rcases Nat.lt_or_ge b m.size with h|h
 ·exact hs.out b (.inl h)
 ·exact hs.out b (.inr h)
def JF:Code->Nat->Array Oper
 | .region id ops _,i=>if id=i then ops else #[]
 | .seq x y,i=>if(JF x i).isEmpty then JF y i else JF x i
 | .cond _ x y,i=>if(JF x i).isEmpty then JF y i else JF x i
 | .block _ c,i=>JF c i
 | .loop c,i=>JF c i
 | .scope c,i=>JF c i
 | .rangeFunc _ _ x y,i=>if(JF x i).isEmpty then JF y i else JF x i
 |_,_=> #[]
end
end Go.DI
namespace Go.Proofs.YtgjflcgmieiafaaGreatDoor
open Go Go.DI Go.DI.Kit Go.Proofs Go.Cmp Go.RowKit
noncomputable section
def Ya:List Value->Option (List Value×List Nat):=λa=>match a with
 | [.agg x]=>some ([.agg x],[])
 |_=>none
def uz:List Value->Option (List Value×List Nat):=λa=>match a with
 | [.agg ⟨[.slice none 0 0, .slice (some ⟨c,0,some 5⟩) n n']⟩, .int .i64 p]=>some ([.agg ⟨[.slice none 0 0, .slice (some ⟨1,0,some 5⟩) n n']⟩, .int .i64 p],[c])
 |_=>none
noncomputable def Qc:CX:=ML (G8 gl 47 Hs Ya) (ML (G8 gl 48 Hs Ya) (G8 gl 68 Hs uz))
theorem I4(B0:Nat):CU Tryz.prog B0 1 Hs:=Cr Bw hK Ee (SS B0) JA 20
theorem Ge:B9 Hs:=CL JA 20
theorem Ga:B9 Qc:=KU (E9 CO I4 Ge) (KU (E9 CO I4 Ge) (E9 CO I4 Ge))
theorem Jn(B0:Nat):CU Tryz.prog B0 1 Qc:=Mc (GR CO I4 Ge B0) (Mc (GR CO I4 Ge B0) (GR CO I4 Ge B0))
theorem Mg{f:FuncId}(h1:f≠47)(h2:f≠48)(h3:f≠68)(a:List Value)(M:Mem):Qc f a M=none:=by
 unfold Qc
 rw[Gt (Cy h1 a M),Gt (Cy h2 a M),Cy h3]
theorem P2{M:Mem}(ht:M.top)(h0:M.get 0= .cells false gl)(h1:1<=M.size):Fits gl [] (([]:List Nat).map M.get) M:=
 ⟨ht,h0,h1,rfl,λb hb=>by simp at hb,by simp,by simp,λi b s hi=>by simp at hi,λs hs=>by simp at hs⟩
theorem OK(x:Bb):(AV x).all GQ=true:=rfl
theorem q9{M:Mem}{x:Bb}{w:List Value}(ht:M.top)(h0:M.get 0= .cells false gl)(h1:1<=M.size)(h:P0 x w)(hw:w.all GQ=true):Qc 47 [.agg ⟨AV x⟩] M=some (.tuple ⟨[.agg ⟨w⟩, .int .i64 0]⟩,M):=by
 obtain⟨m,a1,a2⟩:=h
 refine Ns (EN (op:=Ya) rfl (P2 ht h0 h1) (.cons ((EF (OK x)).sim _ _) .nil) a1 ?_ a2 (λi s hi=>by simp at hi))
 simp[Jd,Nr,hw]
theorem dH{M:Mem}{x:Bb}{n:Int}(ht:M.top)(h0:M.get 0= .cells false gl)(h1:1<=M.size)(h:Sr x n):Qc 48 [.agg ⟨AV x⟩] M=some (.int .i64 n,M):=by
 obtain⟨m,a1,a2⟩:=h
 unfold Qc
 rw[Gt (Cy (by decide) _ M)]
 exact Ns (EN (op:=Ya) rfl (P2 ht h0 h1) (.cons ((EF (OK x)).sim _ _) .nil) a1 rfl a2 (λi s hi=>by simp at hi))
theorem qZ{M:Mem}{c:Nat}{own:Bool}{l:List Bb}{p:Int}{w:List Value}(ht:M.top)(h0:M.get 0= .cells false gl)(h1:1<=M.size)(hc:c<M.size)(hc0:c≠0)(gc:M.get c= .cells own (AE l))(h:PZ own (AE l) l.length p w)(hw:w.all GQ=true):
  Qc 68 [Eu (A6 c l.length), .int .i64 p] M=some (.tuple ⟨[.agg ⟨w⟩, .int .i64 0]⟩,M):=by
 obtain⟨m,a1,a2,a3⟩:=h
 unfold Qc
 rw[Gt (Cy (by decide) _ M),Gt (Cy (by decide) _ M)]
 have hF:=Wi (o1:=own) ht h0 h1 hc hc0 gc
 refine EN (op:=uz) (sa:= [Eu (A6 1 l.length), .int .i64 p]) (bs:= [c]) rfl hF ?_ (m:=m) (by
  show Hs 68 _ (mS gl [M.get c])=_;rw[gc];exact a1) (by simp[Jd,Nr,hw]) a2 (λi s hi=>?_)
 ·have hb:(λi=>Nat.blt i (1+ [c].length)) 1=true:=rfl;exact .cons (KN (.cons ((D9 _ _).sim _ _) (.cons (Da (ρ:=DH [c] M) hb) .nil))) (.cons ((CH _ _).sim _ _) .nil)
 ·rcases i with _|i
  ·have hi:some (M.get c)=some s:=hi;cases hi;rw[gc];exact a3
  ·cases hi
noncomputable abbrev zv:Ed:=CJ Tryz.prog kp 1 Qc 20
theorem dI(B0:Nat):CU Tryz.prog B0 1 zv:=Cr Bw hK Ee (Jn B0) Ga 20
theorem kZ:B9 zv:=CL Ga 20
noncomputable def yz:Code:=AP Tryz.f93
theorem jx:Tryz.prog.funcs[93]?=some Tryz.f93:=by kernel_rfl
theorem jy:Tryz.f93.body=some yz:=by kernel_rfl
noncomputable def ka(i:Nat):Array Oper:=JF yz i
noncomputable def t93:Code:= .seq (.seq (.region 1 (ka 1) false) (.cond (.tmp 7) .skip (.exit 0))) (.block 1 (.seq (.seq (.region 2 (ka 2) false) (.cond (.tmp 11) .ret .skip)) (.region 3 (ka 3) false)))
theorem rC:yz= .seq (.region 0 (ka 0) false) (.block 0 (.loop t93)):=by kernel_rfl
noncomputable def Hz(L:List Value)(n:Nat):Mem:=mS gl [.cells false L, .cells false [A6 1 n]]
noncomputable def hI(x:List Value)(lt:Bool)(pl:Int):H.Hint where
 ix t:=Nat.beq t 30
 ld _ t _:=cond (Nat.beq t 110) (some (.agg ⟨x⟩)) none
 cmp op t:=cond (Nat.beq t 3) (BinOp.rec (motive:=λ_=>Option Bool) none none none none none none none none none none none none none (some lt) none none none op) none
 ap _:=none
 call f:=cond (Nat.beq f 48) (some (.int .i64 pl)) (cond (Nat.beq f 47) (some undef) (cond (Nat.beq f 68) (some undef) none))
 spec _ _ _ _:=False
 blk:=0
 specM f:=cond (Nat.beq f 48) (some λargs m v=>Qc 48 args m=some (v,m)) (some never)
theorem vA{x:List Value}{lt:Bool}{pl:Int}(f:FuncId)(v:Value)(args:List Value)(m:Mem)(hc:(hI x lt pl).call f=some v)(hs:(hI x lt pl).says f args m v):Qc f args m=some (v,(hI x lt pl).eff f m):=by
 by_cases e:f=48
 ·subst e;exact hs
 ·exfalso
  have e1:Nat.beq f 48=false:=by cases hb:Nat.beq f 48 with
   |false=>rfl
   |true=>exact absurd (Nat.eq_of_beq_eq_true hb) e
  unfold H.Hint.says at hs;have:(hI x lt pl).specM f=some never:=by show cond (Nat.beq f 48) _ _=_;rw[e1];rfl
  rw[this]at hs;exact hs
theorem rD{x:List Value}{lt:Bool}{pl:Int}(f:FuncId)(hc:(hI x lt pl).call f=none)(a:List Value)(m:Mem):Qc f a m=none:=
 Mg (by rintro rfl;cases hc) (by rintro rfl;cases hc) (by rintro rfl;cases hc) a m
noncomputable def yV(l:Nat):Value:= .func (.yield l) #[] #[]
noncomputable def fL(l:Nat)(p:Int):List (Nat×Value):= [(0,yV l),(1,Bc 2 0),(3, .int .i64 p)]
abbrev vB:=Ex×Value×Value×Value×Value×Mem
noncomputable def vC(x:List Value)(lt:Bool)(pl:Int)(c:Code)(d:Nat)(t:AF)(M:Mem):Option (H.TT vB):=
 H.codeT (hI x lt pl) c Tryz.prog kp 1 (H.callT (hI x lt pl) Tryz.prog kp 1 20) (λbody _ k t m q=>Y.loopF body k t m q) 20 20 t M λe t m=>some ((e,t.at 0,t.at 1,t.at 3,t.at d,m),[],[])
theorem vD(y:Nat->Value)(L:List Value)(n l:Nat):Rn (vC [] false 0 (.region 0 (ka 0) false) 3 (AB 20 (up y [(0,yV l),(1,Bc 2 0)])) (Hz L n)) ((.normal,yV l,Bc 2 0, .int .i64 0, .int .i64 0,Hz L n),[]):=⟨by kernel_rfl,by kernel_rfl⟩
theorem nT(y:Nat->Value)(L:List Value)(n l:Nat)(p:Int)(lt:Bool):Rn (vC [] lt 0 (.region 1 (ka 1) false) 7 (AB 20 (up y (fL l p))) (Hz L n)) ((.normal,yV l,Bc 2 0, .int .i64 p, .bool lt,Hz L n),[BY Tryz.prog kp .lss 3 (.int .i64 p) (.int .i64 (Int.ofNat n))=some (.bool lt)]):=⟨by kernel_rfl,by kernel_rfl⟩
theorem rE(y:Nat->Value)(L x:List Value)(n l:Nat)(p:Int):Rn (vC x false 1 (.region 3 (ka 3) false) 3 (AB 20 (up y (fL l p))) (Hz L n)) ((.normal,yV l,Bc 2 0, .int .i64 (IntKind.wrap .i64 (Int.add p 1)), .int .i64 (IntKind.wrap .i64 (Int.add p 1)),Hz L n),[I3 p n,Jm L p x,Qc 48 [.agg ⟨x⟩] (Hz L n)=some (.int .i64 1,Hz L n)]):=⟨by kernel_rfl,by kernel_rfl⟩
theorem rF(y:Nat->Value)(L x:List Value)(n l:Nat)(p:Int):Rn (vC x false 2 (.region 3 (ka 3) false) 3 (AB 20 (up y (fL l p))) (Hz L n)) ((.normal,yV l,Bc 2 0, .int .i64 (IntKind.wrap .i64 (Int.add p 2)), .int .i64 (IntKind.wrap .i64 (Int.add p 2)),Hz L n),[I3 p n,Jm L p x,Qc 48 [.agg ⟨x⟩] (Hz L n)=some (.int .i64 2,Hz L n)]):=⟨by kernel_rfl,by kernel_rfl⟩
end
end Go.Proofs.YtgjflcgmieiafaaGreatDoor
namespace Go.Proofs.YtgjflcgmieiafaaGreatDoor
open Go Go.DI Go.DI.Kit Go.Proofs Go.Cmp
noncomputable section
def qv:List Value->Option (List Value×List Nat):=λa=>match a with
 | [.slice (some ⟨k,0,sp⟩) n cap, .int .i64 off, .int .i64 z]=>some ([.slice (some ⟨1,0,sp⟩) n cap, .int .i64 off, .int .i64 z],[k])
 | [.slice none 0 0, .int .i64 off, .int .i64 z]=>some ([.slice none 0 0, .int .i64 off, .int .i64 z],[])
 |_=>none
noncomputable abbrev yx:Ed:=AL Tryz.prog kp 1 oQ 20
theorem dA(B0:Nat):CU Tryz.prog B0 1 yx:=Nq Bw hK Ee m9 NB 20
theorem Wo:B9 yx:=Iz NB 20
noncomputable def Fp:CX:=ML (G8 gl 18 yx Ya) (G8 gl 63 Hs qv)
theorem Wp:B9 Fp:=KU (E9 CO dA Wo) (E9 CO I4 Ge)
theorem qw(B0:Nat):CU Tryz.prog B0 1 Fp:=Mc (GR CO dA Wo B0) (GR CO I4 Ge B0)
theorem kT{f:FuncId}(h1:f≠18)(h2:f≠63)(a:List Value)(M:Mem):Fp f a M=none:=by
 unfold Fp
 rw[Gt (Cy h1 a M),Cy h2]
theorem Wq{M:Mem}{t:A8}(ht:M.top)(h0:M.get 0= .cells false gl)(h1:1<=M.size)(h:Cq t=true):Fp 18 [.agg ⟨AQ t⟩] M=some (.bool true,M):=by
 have e0:(mS gl []).get 0= .cells false gl:=by rw[show mS gl []=mG gl from rfl,mG_get]
 obtain⟨M',a1,a2⟩:=ZN (k:=20) (t:=t) gZ (by decide) (M:=mS gl []) ⟨DY _,by show 1<=1;decide,e0⟩
 rw[h]at a1
 refine Ns (EN (op:=Ya) rfl (P2 ht h0 h1) (.cons ((EF rfl).sim _ _) .nil) a1 rfl ?_ (λi s hi=>by simp at hi))
 rw[a2.get 0 (by show 0<1;decide)]
 exact e0
theorem kU{M:Mem}{k n cap:Nat}{sp:Option Nat}{P:List Value}{own:Bool}{off z:Int}{v:Value}(hF:Fits gl [k] [M.get k] M)(gk:M.get k= .cells own P)(h:∃m,Hs 63 [IA n cap sp, .int .i64 off, .int .i64 z] (mS gl [.cells own P])=some (v,m)/\m.get 0= .cells false gl/\m.get 1= .cells own P)(hv:Jd v=true):
  Fp 63 [.slice (some ⟨k,0,sp⟩) n cap, .int .i64 off, .int .i64 z] M=some (v,M):=by
 obtain⟨m,a1,a2,a3⟩:=h
 unfold Fp
 rw[Gt (Cy (by decide) _ M)]
 refine EN (op:=qv) (sa:= [IA n cap sp, .int .i64 off, .int .i64 z]) (bs:= [k]) rfl hF ?_ (m:=m) (by
  show Hs 63 _ (mS gl [M.get k])=_;rw[gk];exact a1) hv a2 (λi s hi=>?_)
 ·refine .cons ?_ (.cons ((CH _ _).sim _ _) (.cons ((CH _ _).sim _ _) .nil));have hb:(λi=>Nat.blt i (1+ [k].length)) 1=true:=rfl;cases sp with
  |none=>exact KM (ρ:=DH [k] M) hb
  |some e=>exact Da (ρ:=DH [k] M) hb
 ·rcases i with _|i
  ·have hi:some (M.get k)=some s:=hi;cases hi;rw[gk];exact a3
  ·cases hi
theorem nP{N b14:Int}{ok b1 b2 lt15:Bool}(f:FuncId)(v:Value)(args:List Value)(m:Mem)(hc:(hH N ok b1 b2 lt15 b14 Fp).call f=some v)(hs:(hH N ok b1 b2 lt15 b14 Fp).says f args m v):Fp f args m=some (v,(hH N ok b1 b2 lt15 b14 Fp).eff f m):=hs
theorem dB{N b14:Int}{ok b1 b2 lt15:Bool}(f:FuncId)(hc:(hH N ok b1 b2 lt15 b14 Fp).call f=none)(a:List Value)(m:Mem):Fp f a m=none:=
 kT (by rintro rfl;cases hc) (by rintro rfl;cases hc) a m
noncomputable abbrev tO:Ed:=CJ Tryz.prog kp 1 Fp 20
def P3(own:Bool)(P:List Value)(pv:Value)(port:Int)(tv:List Value)(b:Bool):Prop:=∃m,tO 17 [.agg ⟨tv⟩,pv, .int .u32 port] (mS gl [.cells own P])=some (.bool b,m)/\m.get 0= .cells false gl/\m.get 1= .cells own P
theorem DC{N b14 port:Int}{ok b1 b2 lt15 b own:Bool}{P tv:List Value}{pv:Value}{qs:List Prop}
  (h:Rn (JH N ok b1 b2 lt15 b14 Fp own P pv port tv) ((.bool b, .cells false gl, .cells own P),qs)) (hq:∀q∈qs,q):P3 own P pv port tv b:=by
 obtain⟨v',m,a1,a2⟩:=H.callO_H (H:=hH N ok b1 b2 lt15 b14 Fp) (o:=Fp) (P:=Tryz.prog) (K:=kp) (G:=1) (k:=20) (f:=17) (args:= [.agg ⟨tv⟩,pv, .int .u32 port]) (m:=mS gl [.cells own P]) (g:=λv m=>(v,m.get 0,m.get 1)) nP dB h.1 h.2 hq
 have e1:v'=_:=congrArg (λx=>x.1) a2
 have e2:m.get 0=_:=congrArg (λx=>x.2.1) a2
 have e3:m.get 1=_:=congrArg (λx=>x.2.2) a2
 exact⟨m,a1.trans (by rw[e1]),e2,e3⟩
theorem FO{n lo hi:Int}{neg:Bool}{R:Bool->Prop}(TT:lo<=n->n<=hi->R (!neg))(TF:lo<=n->¬n<=hi->R neg)(F:¬lo<=n->R neg):R (decide (lo<=n/\n<=hi) !=neg):=by
 by_cases h1:lo<=n
 ·by_cases h2:n<=hi
  ·rw[decide_eq_true ⟨h1,h2⟩];have:=TT h1 h2;cases neg<;>exact this
  ·rw[decide_eq_false (λh=>h2 h.2)];have:=TF h1 h2;cases neg<;>exact this
 ·rw[decide_eq_false (λh=>h1 h.1)];have:=F h1;cases neg<;>exact this
theorem CB{a b:Int}(h:a<=b):Ch a b true:=by unfold Ch;simp[BY,BX,B1];omega
theorem FP{a b:Int}(h:¬a<=b):Ch a b false:=by unfold Ch;simp[BY,BX,B1];omega
theorem ux{b:Int}(h:0<=b/\b<256):IntKind.wrap .u8 ((BitVec.ofInt (IntKind.bits .u8) b &&& BitVec.ofInt (IntKind.bits .u8) 15).toNat:Nat)=b % 16:=by
 obtain⟨n,rfl⟩:=Int.eq_ofNat_of_zero_le h.1
 have h2:=h.2
 show IntKind.wrap .u8 ((BitVec.ofInt 8 (n:Int) &&& BitVec.ofInt 8 15).toNat:Nat)=_
 have e1:(BitVec.ofInt 8 (n:Int)).toNat=n:=by
  rw[BitVec.toNat_ofInt];show((n:Int) % 256).toNat=n;omega
 have e2:(BitVec.ofInt 8 15).toNat=15:=by decide
 rw[BitVec.toNat_and,e1,e2,show(15:Nat)=2 ^ 4 - 1 by decide,Nat.and_two_pow_sub_one_eq_mod]
 rw[IntWalk.u8_in _ (by omega)]
 omega
theorem qx{b:Int}{pos:Nat}(h:0<=b/\b<256)(hp:pos<=255):qu b (pos:Int)=((14+4*(b % 16).toNat+pos:Nat):Int):=by
 unfold qu
 rw[ux h]
 have nQ:0<=b % 16/\b % 16<16:=by omega
 have e1:IntKind.wrap .i64 (b % 16)=b % 16:=wrap_i64 ⟨by omega,by omega⟩
 have e2:IntKind.wrap .i64 (Int.mul 4 (b % 16))=4*(b % 16):=wrap_i64 (x:=4*(b % 16)) ⟨by omega,by omega⟩
 have e3:IntKind.wrap .i64 (Int.add 14 (4*(b % 16)))=14+4*(b % 16):=wrap_i64 (x:=14+4*(b % 16)) ⟨by omega,by omega⟩
 have e4:IntKind.wrap .i64 (Int.add (14+4*(b % 16)) (pos:Int))=14+4*(b % 16)+pos:=wrap_i64 (x:=14+4*(b % 16)+pos) ⟨by omega,by omega⟩
 rw[e1,e2,e3,e4]
 omega
theorem uy{own:Bool}{pk:List Int}{ss:List BH}:Fits gl [1] [(mS gl (.cells own (AH pk)::ss)).get 1] (mS gl (.cells own (AH pk)::ss)):=by
 have e0:(mS gl (.cells own (AH pk)::ss)).get 0= .cells false gl:=by
  have:=Bf (.cells own (AH pk)::ss) (mG gl) 0;unfold mS;rw[this,mG_size,if_pos (by decide),mG_get]
 have e1:(mS gl (.cells own (AH pk)::ss)).get 1= .cells own (AH pk):=by
  have:=Bf (.cells own (AH pk)::ss) (mG gl) 1;unfold mS;rw[this,mG_size,if_neg (by decide)];rfl
 have ez:1< (mS gl (.cells own (AH pk)::ss)).size:=by
  unfold mS;rw[CQ,mG_size,List.length_cons];omega
 refine⟨DY _,e0,by omega,rfl,λb hb=>?_,by simp,by simp,λi b s hi hs=>?_,λs hs=>?_⟩
 ·obtain rfl:=List.mem_singleton.1 hb;exact ez
 ·rcases i with _|i
  ·cases hi;cases hs;rw[e1];show _=BH.cells own _;rw[CW (C3 pk)]
  ·cases hi
 ·obtain rfl:=List.mem_singleton.1 hs;rw[e1];exact⟨λv hv=>Ev (List.all_eq_true.1 (C3 pk) v hv),λv hv=>Di (List.all_eq_true.1 (C3 pk) v hv)⟩
theorem qy{own:Bool}{P:List Value}{t:A8}(h:Cq t=true):TQ Fp own P (AQ t):=by
 have e0:(mS gl [.cells own P, .cells true (AQ t)]).get 0= .cells false gl:=by
  have:=Bf [.cells own P, .cells true (AQ t)] (mG gl) 0;unfold mS;rw[this,mG_size,if_pos (by decide),mG_get]
 exact Wq (DY _) e0 (by unfold mS;rw[CQ,mG_size];omega) h
theorem Qj{own:Bool}{pk:List Int}{cap:Nat}{sp:Option Nat}{tv kb:List Value}{at_ z N:Int}{ok:Bool}
  (h:∃m,Hs 63 [IA pk.length cap sp, .int .i64 at_, .int .i64 z] (mS gl [.cells own (AH pk)])=some (.tuple ⟨[.int .u64 N, .bool ok]⟩,m)/\m.get 0= .cells false gl/\m.get 1= .cells own (AH pk)):cU Fp own (AH pk) pk.length cap sp tv kb at_ z N ok:=
 kU (k:=1) (own:=own) uy (by
  have:=Bf [.cells own (AH pk), .cells true tv, .cells true kb, .cells true tv] (mG gl) 1;unfold mS;rw[this,mG_size,if_neg (by decide)];rfl) h rfl
theorem kV{l:List Int}(h:∀b∈l,0<=b/\b<256)(hl:l.length<=8):u64 (FT l):=by
 have key:∀(l:List Int) (r:Int),(∀b∈l,0<=b/\b<256)->0<=r->r<256 ^ (8 - l.length)->l.length<=8->0<=l.foldl (λn b=>256*n+b) r/\l.foldl (λn b=>256*n+b) r<256 ^ 8:=by
  intro l;induction l with
  |nil=>intro r _ h0 h1 _;exact⟨h0,h1⟩
  |cons b l ih=>
   intro r hb h0 h1 hl;have hb0:=hb b (List.mem_cons_self ..);simp only[List.length_cons]at h1 hl;rw[List.foldl_cons];refine ih _ (λx hx=>hb x (List.mem_cons_of_mem _ hx)) (by omega) ?_ (by omega)
   have e:(256:Int) ^ (8 - l.length)=256*256 ^ (8 - (l.length+1)):=by
    rw[show 8 - l.length=(8 - (l.length+1))+1 by omega,Int.pow_succ];exact Int.mul_comm _ _
   rw[e];omega
 have:=key l 0 h (by omega) (Int.pow_pos (by decide)) hl
 exact⟨this.1,by
  have h2:=this.2;have:(256:Int) ^ 8=18446744073709551616:=by decide
  unfold FT;omega⟩
theorem La{t:A8}(h:Cq t=true):(t.kind=1\/t.kind=2)\/((t.kind=3\/t.kind=4)/\(t.size=1\/t.size=2\/t.size=4\/t.size=8)/\0<=t.pos/\t.pos<=255):=by
 unfold Cq at h
 split at h
 ·cases h
 ·split at h
  ·rename_i h2;exact .inl h2
  ·split at h
   ·cases h
   ·split at h
    ·cases h
    ·rename_i h3 h4;simp only[decide_eq_true_eq]at h;exact .inr ⟨by omega,by omega,h.1,h.2.1⟩
theorem dC{n:Nat}(h:n<=1000000):IntKind.wrap .u64 (Int.ofNat n)=(n:Int):=IntWalk.u64_in _ (by show 0<=(n:Int)/\(n:Int)<=_;omega)
theorem Qk{a b:Int}(ha:u64 a)(hb:u64 b):MP a b=Cz a b:=P9 ha hb
theorem Yb{t:A8}{pk:List Int}{port:Int}{own:Bool}{cap:Nat}{sp:Option Nat}(hm:Cq t=true)(hr:C2 t)(hb:∀b∈pk,0<=b/\b<256)(hn:pk.length<=65535)(hc:pk.length<=cap)(hsp:sp=none\/pk= [])(hp:0<=port/\port<4294967296):
  P3 own (AH pk) (IA pk.length cap sp) port (AQ t) (BN t pk port):=by
 have hmask:u64 t.mask:=hr.mask
 have hk:=La hm
 have h18:=qy (own:=own) (P:=AH pk) hm
 obtain⟨neg,kind,pos,size,mask,lo,hi⟩:=t
 have etc:AQ ⟨neg,kind,pos,size,mask,lo,hi⟩=AK neg kind pos size mask lo hi:=rfl
 rw[etc]at h18 ⊢
 simp only at hmask hk
 rcases hk with(rfl|rfl)|⟨hk,hz,hp0,hp1⟩
 ·have e:BN ⟨neg,1,pos,size,mask,lo,hi⟩ pk port=(decide (lo<=(pk.length:Int)/\(pk.length:Int)<=hi) !=neg):=rfl;rw[e];have ew:=dC (n:=pk.length) (by omega)
  exact FO (R:=λb=>P3 own (AH pk) (IA pk.length cap sp) port (AK neg 1 pos size mask lo hi) b)
   (λh1 h2=>DC (cX Fp own (AH pk) pk.length cap sp port pos size mask lo hi neg) (AA h18 (AA (by rw[ew];exact CB h1) (AA (by rw[ew];exact CB h2) AN))))
   (λh1 h2=>DC (cY Fp own (AH pk) pk.length cap sp port pos size mask lo hi neg) (AA h18 (AA (by rw[ew];exact CB h1) (AA (by rw[ew];exact FP h2) AN))))
   (λh1=>DC (kI Fp own (AH pk) pk.length cap sp port pos size mask lo hi neg) (AA h18 (AA (by rw[ew];exact FP h1) AN)))
 ·have e:BN ⟨neg,2,pos,size,mask,lo,hi⟩ pk port=(decide (lo<=port/\port<=hi) !=neg):=rfl;rw[e];have ew:IntKind.wrap .u64 port=port:=IntWalk.u64_in _ (by omega)
  exact FO (R:=λb=>P3 own (AH pk) (IA pk.length cap sp) port (AK neg 2 pos size mask lo hi) b)
   (λh1 h2=>DC (cZ Fp own (AH pk) pk.length cap sp port pos size mask lo hi neg) (AA h18 (AA (by rw[ew];exact CB h1) (AA (by rw[ew];exact CB h2) AN))))
   (λh1 h2=>DC (c9 Fp own (AH pk) pk.length cap sp port pos size mask lo hi neg) (AA h18 (AA (by rw[ew];exact CB h1) (AA (by rw[ew];exact FP h2) AN))))
   (λh1=>DC (kJ Fp own (AH pk) pk.length cap sp port pos size mask lo hi neg) (AA h18 (AA (by rw[ew];exact FP h1) AN)))
 ·obtain⟨z,rfl⟩:=Int.eq_ofNat_of_zero_le (show 0<=size by omega);obtain⟨p,rfl⟩:=Int.eq_ofNat_of_zero_le hp0;have hz':z=1\/z=2\/z=4\/z=8:=by omega
  have hz8:z<=8:=by omega
  have hcut:∀a:Nat,u64 (FT (cut pk a z)):=λa=>kV (λb h=>hb b (List.mem_of_mem_drop (List.mem_of_mem_take h))) (by unfold cut;simp;omega);rcases hk with rfl|rfl
  ·by_cases hin:p+z<=pk.length
   ·have hsn:sp=none:=by
     rcases hsp with h|h
     ·exact h
     ·rw[h]at hin;simp at hin;omega
    subst hsn
    have e:BN ⟨neg,3,(p:Int),(z:Int),mask,lo,hi⟩ pk port=(decide (lo<=Cz (FT (cut pk p z)) mask/\Cz (FT (cut pk p z)) mask<=hi) !=neg):=by
     simp[BN,Cs,hin]
    rw[e,←Qk (hcut p) hmask];have h63:∀kb,cU Fp own (AH pk) pk.length cap none (AK neg 3 (p:Int) (z:Int) mask lo hi) kb (p:Int) (z:Int) (FT (cut pk p z)) true:=λkb=>Qj (dD hb (by omega) hz' hin hc)
    exact FO (R:=λb=>P3 own (AH pk) (IA pk.length cap none) port (AK neg 3 (p:Int) (z:Int) mask lo hi) b)
     (λh1 h2=>DC (cg Fp own (AH pk) pk.length cap none port (p:Int) (z:Int) mask lo hi (FT (cut pk p z)) 0 neg) (AA h18 (AA (h63 _) (AA (CB h1) (AA (CB h2) AN)))))
     (λh1 h2=>DC (ck Fp own (AH pk) pk.length cap none port (p:Int) (z:Int) mask lo hi (FT (cut pk p z)) 0 neg) (AA h18 (AA (h63 _) (AA (CB h1) (AA (FP h2) AN)))))
     (λh1=>DC (kK Fp own (AH pk) pk.length cap none port (p:Int) (z:Int) mask lo hi (FT (cut pk p z)) 0 neg) (AA h18 (AA (h63 _) (AA (FP h1) AN))))
   ·have e:BN ⟨neg,3,(p:Int),(z:Int),mask,lo,hi⟩ pk port=neg:=by
     simp[BN,Cs,hin]
    rw[e];exact DC (kL Fp own (AH pk) pk.length cap sp port (p:Int) (z:Int) mask lo hi 0 0 neg) (AA h18 (AA (Qj (Wr (by omega) hz8 (by omega))) AN))
  ·by_cases h15:15<=pk.length
   ·have hsn:sp=none:=by
     rcases hsp with h|h
     ·exact h
     ·rw[h]at h15;simp at h15
    subst hsn;obtain⟨b14,hb14⟩:∃b14,pk.getD 14 0=b14:=⟨_,rfl⟩
    have hget:pk[14]?=some b14:=by
     rw[←hb14,List.getD_eq_getElem?_getD,List.getElem?_eq_getElem (by omega)];rfl
    have hbb:=hb b14 (List.mem_of_getElem? hget);have hat:=qx (pos:=p) hbb (by omega);obtain⟨a,ha⟩:∃a,14+4*(b14 % 16).toNat+p=a:=⟨_,rfl⟩;rw[ha]at hat
    have hal:a<=1000:=by omega
    have hls:Ob pk.length false:=by unfold Ob;simp[BY,BX,B1];omega
    have hix:cV 14 pk.length:=⟨by decide,by omega⟩
    have hld:cW (AH pk) b14:=by
     show H.blkNth (.cells true (AH pk)) 14=some (.int .u8 b14);show(AH pk)[14]?=_;unfold AH;rw[List.getElem?_map,hget];rfl
    by_cases hin:a+z<=pk.length
    ·have e:BN ⟨neg,4,(p:Int),(z:Int),mask,lo,hi⟩ pk port=(decide (lo<=Cz (FT (cut pk a z)) mask/\Cz (FT (cut pk a z)) mask<=hi) !=neg):=by
      have hb':pk[14]?.getD 0=b14:=by rw[hget];rfl
      simp[BN,Cs,hb',ha,h15,hin]
     rw[e,←Qk (hcut a) hmask]
     have h63:∀kb,cU Fp own (AH pk) pk.length cap none (AK neg 4 (p:Int) (z:Int) mask lo hi) kb (qu b14 (p:Int)) (z:Int) (FT (cut pk a z)) true:=λkb=>by
      rw[hat];exact Qj (dD hb (by omega) hz' hin hc)
     exact FO (R:=λb=>P3 own (AH pk) (IA pk.length cap none) port (AK neg 4 (p:Int) (z:Int) mask lo hi) b)
      (λh1 h2=>DC (cm Fp own (AH pk) pk.length cap none port (p:Int) (z:Int) mask lo hi (FT (cut pk a z)) b14 neg) (AA h18 (AA hls (AA hix (AA hld (AA (h63 _) (AA (CB h1) (AA (CB h2) AN))))))))
      (λh1 h2=>DC (cq Fp own (AH pk) pk.length cap none port (p:Int) (z:Int) mask lo hi (FT (cut pk a z)) b14 neg) (AA h18 (AA hls (AA hix (AA hld (AA (h63 _) (AA (CB h1) (AA (FP h2) AN))))))))
      (λh1=>DC (kM Fp own (AH pk) pk.length cap none port (p:Int) (z:Int) mask lo hi (FT (cut pk a z)) b14 neg) (AA h18 (AA hls (AA hix (AA hld (AA (h63 _) (AA (FP h1) AN)))))))
    ·have e:BN ⟨neg,4,(p:Int),(z:Int),mask,lo,hi⟩ pk port=neg:=by
      have hb':pk[14]?.getD 0=b14:=by rw[hget];rfl
      simp[BN,Cs,hb',ha,h15,hin]
     rw[e];exact DC (kN Fp own (AH pk) pk.length cap none port (p:Int) (z:Int) mask lo hi 0 b14 neg) (AA h18 (AA hls (AA hix (AA hld (AA (by rw[hat];exact Qj (Wr (by omega) hz8 (by omega))) AN)))))
   ·have e:BN ⟨neg,4,(p:Int),(z:Int),mask,lo,hi⟩ pk port=neg:=by
     simp[BN,Cs,h15]
    rw[e];exact DC (kO Fp own (AH pk) pk.length cap sp port (p:Int) (z:Int) mask lo hi neg) (AA h18 (AA (by unfold Ob;simp[BY,BX,B1];omega) AN))
noncomputable def yy(z:Nat)(off:Int):Option (H.TT (Value×BH)):=
 H.callT (nR true 0 0 none z (λ_=>0)) Tryz.prog kp 1 20 63 [.slice none 0 0, .int .i64 off, .int .i64 (Int.ofNat z)] (mS gl []) λv m=>some ((v,m.get 0),[],[])
theorem dE(z:Nat)(off:Int):Rn (yy z off) ((.tuple ⟨[.int .u64 0, .bool false]⟩, .cells false gl),[fK off z 0 true]):=⟨by kernel_rfl,by kernel_rfl⟩
theorem kW{off z:Nat}(h1:off<=1000000)(h2:z<=8)(h3:0<z):∃m,Hs 63 [.slice none 0 0, .int .i64 (off:Int), .int .i64 (z:Int)] (mS gl [])=some (.tuple ⟨[.int .u64 0, .bool false]⟩,m)/\m.get 0= .cells false gl:=by
 have h:=dE z (off:Int)
 obtain⟨v',m,a1,a2⟩:=H.callO_H (H:=nR true 0 0 none z (λ_=>0)) (o:=Fm) (P:=Tryz.prog) (K:=kp) (G:=1) (k:=20) (f:=63) (args:= [.slice none 0 0, .int .i64 (off:Int), .int .i64 (Int.ofNat z)]) (m:=mS gl []) (g:=λv m=>(v,m.get 0)) dF Ws h.1 h.2 (AA (by
  unfold fK;rw[Ka h1 h2];simp[BY,BX,B1];omega) AN)
 have e1:v'=_:=congrArg (λx=>x.1) a2
 have e2:m.get 0=_:=congrArg (λx=>x.2) a2
 exact⟨m,a1.trans (by rw[e1]),e2⟩
def Mi(port:Int)(tv:List Value)(b:Bool):Prop:=∃m,tO 17 [.agg ⟨tv⟩, .slice none 0 0, .int .u32 port] (mS gl [])=some (.bool b,m)/\m.get 0= .cells false gl
theorem Gf{N b14 port:Int}{ok b1 b2 lt15 b:Bool}{tv:List Value}{qs:List Prop}
  (h:Rn (Qh N ok b1 b2 lt15 b14 Fp port tv) ((.bool b, .cells false gl),qs)) (hq:∀q∈qs,q):Mi port tv b:=by
 obtain⟨v',m,a1,a2⟩:=H.callO_H (H:=hH N ok b1 b2 lt15 b14 Fp) (o:=Fp) (P:=Tryz.prog) (K:=kp) (G:=1) (k:=20) (f:=17) (args:= [.agg ⟨tv⟩, .slice none 0 0, .int .u32 port]) (m:=mS gl []) (g:=λv m=>(v,m.get 0)) nP dB h.1 h.2 hq
 have e1:v'=_:=congrArg (λx=>x.1) a2
 have e2:m.get 0=_:=congrArg (λx=>x.2) a2
 exact⟨m,a1.trans (by rw[e1]),e2⟩
theorem Mj(ss:List BH):(mS gl ss).get 0= .cells false gl:=by
 have:=Bf ss (mG gl) 0
 unfold mS
 rw[this,mG_size,if_pos (by decide),mG_get]
theorem Ql(ss:List BH):1<=(mS gl ss).size:=by unfold mS;rw[CQ,mG_size];omega
theorem kX{t:A8}(h:Cq t=true):Qi Fp (AQ t):=Wq (DY _) (Mj _) (Ql _) h
theorem kY{tv:List Value}{off z:Nat}(h1:off<=1000000)(h2:z<=8)(h3:0<z):qt Fp tv (off:Int) (z:Int):=by
 obtain⟨m,a1,a2⟩:=kW h1 h2 h3
 unfold qt Fp
 rw[Gt (Cy (by decide) _ _)]
 exact EN (op:=qv) (bs:= []) rfl (P2 (DY _) (Mj _) (Ql _)) (.cons ((D9 _ _).sim _ _) (.cons ((CH _ _).sim _ _) (.cons ((CH _ _).sim _ _) .nil))) a1 rfl a2 (λi s hi=>by simp at hi)
theorem holds_nil{t:A8}{port:Int}(hm:Cq t=true)(hp:0<=port/\port<4294967296):Mi port (AQ t) (BN t [] port):=by
 have hk:=La hm
 have h18:=kX hm
 obtain⟨neg,kind,pos,size,mask,lo,hi⟩:=t
 have etc:AQ ⟨neg,kind,pos,size,mask,lo,hi⟩=AK neg kind pos size mask lo hi:=rfl
 rw[etc]at h18 ⊢
 simp only at hk
 rcases hk with(rfl|rfl)|⟨hk,hz,hp0,hp1⟩
 ·have e:BN ⟨neg,1,pos,size,mask,lo,hi⟩ [] port=(decide (lo<=(0:Int)/\(0:Int)<=hi) !=neg):=rfl;rw[e];have ew:=dC (n:=0) (by omega);have ew:IntKind.wrap .u64 (Int.ofNat 0)=0:=ew
  exact FO (R:=λb=>Mi port (AK neg 1 pos size mask lo hi) b)
   (λh1 h2=>Gf (cr Fp port pos size mask lo hi neg) (AA h18 (AA (by rw[ew];exact CB h1) (AA (by rw[ew];exact CB h2) AN))))
   (λh1 h2=>Gf (cu Fp port pos size mask lo hi neg) (AA h18 (AA (by rw[ew];exact CB h1) (AA (by rw[ew];exact FP h2) AN))))
   (λh1=>Gf (kP Fp port pos size mask lo hi neg) (AA h18 (AA (by rw[ew];exact FP h1) AN)))
 ·have e:BN ⟨neg,2,pos,size,mask,lo,hi⟩ [] port=(decide (lo<=port/\port<=hi) !=neg):=rfl;rw[e];have ew:IntKind.wrap .u64 port=port:=IntWalk.u64_in _ (by omega)
  exact FO (R:=λb=>Mi port (AK neg 2 pos size mask lo hi) b)
   (λh1 h2=>Gf (cw Fp port pos size mask lo hi neg) (AA h18 (AA (by rw[ew];exact CB h1) (AA (by rw[ew];exact CB h2) AN))))
   (λh1 h2=>Gf (cy Fp port pos size mask lo hi neg) (AA h18 (AA (by rw[ew];exact CB h1) (AA (by rw[ew];exact FP h2) AN))))
   (λh1=>Gf (kQ Fp port pos size mask lo hi neg) (AA h18 (AA (by rw[ew];exact FP h1) AN)))
 ·obtain⟨z,rfl⟩:=Int.eq_ofNat_of_zero_le (show 0<=size by omega);obtain⟨p,rfl⟩:=Int.eq_ofNat_of_zero_le hp0;rcases hk with rfl|rfl
  ·have e:BN ⟨neg,3,(p:Int),(z:Int),mask,lo,hi⟩ [] port=neg:=by
    have hz0:z≠0:=by omega
    simp[BN,Cs,hz0]
   rw[e];exact Gf (kR Fp port (p:Int) (z:Int) mask lo hi neg) (AA h18 (AA (kY (by omega) (by omega) (by omega)) AN))
  ·have e:BN ⟨neg,4,(p:Int),(z:Int),mask,lo,hi⟩ [] port=neg:=by simp[BN,Cs]
   rw[e];exact Gf (kS Fp port (p:Int) (z:Int) mask lo hi neg) (AA h18 (AA (by unfold Ob;simp[BY,BX,B1]) AN))
def Yc:List Value->Option (List Value×List Nat):=λa=>match a with
 | [.agg tv, .slice (some ⟨k,0,sp⟩) n cap, .int .u32 port]=>some ([.agg tv, .slice (some ⟨1,0,sp⟩) n cap, .int .u32 port],[k])
 | [.agg tv, .slice none 0 0, .int .u32 port]=>some ([.agg tv, .slice none 0 0, .int .u32 port],[])
 |_=>none
noncomputable def Sq:CX:=G8 gl 17 tO Yc
theorem dG(B0:Nat):CU Tryz.prog B0 1 tO:=Cr Bw hK Ee (qw B0) Wp 20
theorem Wt:B9 tO:=CL Wp 20
theorem qz(B0:Nat):CU Tryz.prog B0 1 Sq:=GR CO dG Wt B0
theorem Wu:B9 Sq:=E9 CO dG Wt
def ID(M:Mem)(pv:Value)(pk:List Int):Prop:=(pv= .slice none 0 0/\pk= [])\/∃k sp cap own,pv= .slice (some ⟨k,0,sp⟩) pk.length cap/\pk.length<=cap/\(sp=none\/pk= [])/\k<M.size/\k≠0/\M.get k= .cells own (AH pk)
theorem nS{M:Mem}{k:Nat}{own:Bool}{pk:List Int}(hM:M.top)(h0:M.get 0= .cells false gl)(h1:1<=M.size)(hk:k<M.size)(hk0:k≠0)(gk:M.get k= .cells own (AH pk)):Fits gl [k] [M.get k] M:=by
 refine⟨hM,h0,h1,rfl,λb hb=>?_,?_,by simp,λi b s hi hs=>?_,λs hs=>?_⟩
 ·obtain rfl:=List.mem_singleton.1 hb;exact hk
 ·simp only[List.mem_cons,List.not_mem_nil,or_false];exact λh=>hk0 h.symm
 ·rcases i with _|i
  ·cases hi;cases hs;rw[gk];show _=BH.cells own _;rw[CW (C3 pk)]
  ·cases hi
 ·obtain rfl:=List.mem_singleton.1 hs;rw[gk];exact⟨λv hv=>Ev (List.all_eq_true.1 (C3 pk) v hv),λv hv=>Di (List.all_eq_true.1 (C3 pk) v hv)⟩
theorem rB{M:Mem}{t:A8}{pk:List Int}{pv:Value}{port:Int}(hM:M.top)(h0:M.get 0= .cells false gl)(h1:1<=M.size)(hm:Cq t=true)(hr:C2 t)(hb:∀b∈pk,0<=b/\b<256)(hn:pk.length<=65535)(hpk:ID M pv pk)(hp:0<=port/\port<4294967296):
  Sq 17 [.agg ⟨AQ t⟩,pv, .int .u32 port] M=some (.bool (BN t pk port),M):=by
 rcases hpk with⟨rfl,rfl⟩|⟨k,sp,cap,own,rfl,hc,hsp,hk,hk0,gk⟩
 ·obtain⟨m,a1,a2⟩:=holds_nil hm hp;exact EN (op:=Yc) (bs:= []) rfl (P2 hM h0 h1) (.cons ((EF rfl).sim _ _) (.cons ((D9 _ _).sim _ _) (.cons ((CH _ _).sim _ _) .nil))) a1 rfl a2 (λi s hi=>by simp at hi)
 ·obtain⟨m,a1,a2,a3⟩:=Yb (own:=own) hm hr hb hn hc hsp hp
  refine EN (op:=Yc) (sa:= [.agg ⟨AQ t⟩,IA pk.length cap sp, .int .u32 port]) (bs:= [k]) rfl (nS hM h0 h1 hk hk0 gk) ?_ (m:=m) (by
   show tO 17 _ (mS gl [M.get k])=_;rw[gk];exact a1) rfl a2 (λi s hi=>?_)
  ·have hb1:(λi=>Nat.blt i (1+ [k].length)) 1=true:=rfl;refine .cons ((EF rfl).sim _ _) (.cons ?_ (.cons ((CH _ _).sim _ _) .nil));cases sp with
   |none=>exact KM (ρ:=DH [k] M) hb1
   |some e=>exact Da (ρ:=DH [k] M) hb1
  ·rcases i with _|i
   ·have hi:some (M.get k)=some s:=hi;cases hi;rw[gk];exact a3
   ·cases hi
end
end Go.Proofs.YtgjflcgmieiafaaGreatDoor
namespace Go.DI
open Go.RowKit
noncomputable section
def Marks(Ds:List Nat)(W:World):Prop:=∀D∈Ds,W.heap[D]?=some (.deferred (some []))
theorem Marks.keeps{Ds:List Nat}{W W':World}(h:Marks Ds W)(hk:FD W W'):Marks Ds W':=λD hD=>hk.2 D _ (h D hD) rfl
section
variable{P:Program}{B0 n d:Nat}{w0 w:World}{ι:Ren}{m0:Mem}{a:Act}{g:Operand}{ps:Array Tmp}{assign body:Code}{Q:Exit->Act->World->Prop}
theorem Nv{α:Type}(hs:St B0 w0 ι m0 w){Ds:List Nat}(hDs:Marks Ds w)(hd:1<=d){gf:Nat}{lb:Array Value}(hg:a.eval g= .func (.func gf) #[] lb)(eg:∀args w,(callFunc gf args).run P w= .ok (.enter gf args) w)
  {encs:α->Array Value} {Kp:World->World->Prop} {S:List α->Prop} {N:Nat} (hseq:SeqStopsK Fence.wide (d - 1) P gf lb encs Kp S (λ_=>True) N w)
  (hKt:∀{A B C:World},Kp A B->Kp B C->Kp A C) (hKb:∀(W:World) (l:Nat) (o o':Obj),w.heap.size<=l->W.heap[l]?=some o->o.isCells=false->o.isWalk=false->Kp W (W.putObj l o')) (hps:∀x,(encs x).size=ps.size)
  (mp:List α->Mem) (h0:mp []=m0) (hc:∀pre b,((mp pre).get b).live->∃o c,(mp pre).get b= .cells o c) (a₁:α->Act)
  (hassign:∀(l:Nat) (x:α) (W:World) (K:Act->World->Prop),K (a₁ x) W->
   assign.wpIn (FR l) (d - 1 - 1) P (Exit.then K (λ_ _ _=>False)) {tmps:=(ps.zip (encs x)).foldl (λt (p,v)=>t.setIfInBounds p v) a.tmps,defers:= []} W)
  (hbody:∀(l:Nat) (pre:List α) (x:α) (W:World) (Q':Exit->Act->World->Prop),¬LetsOut Q'->St B0 w0 ι (mp pre) W->(∀a' W',FD W W'->St B0 w0 ι (mp (pre++ [x])) W'->Q' .normal a' W')->body.wpIn (FR l) (d - 1 - 1) P Q' (a₁ x) W)
  (hKp:∀(pre:List α) (W W':World),St B0 w0 ι (mp pre) W'->Kp W W')
  (hQ:∀(D:Nat) (xs:List α) (W:World),w.heap.size<=D->S xs->St B0 w0 ι (mp xs) W->Marks (D::Ds) W->Q .normal {a with defers:={target:= .collected D,args:= #[]}::a.defers} W):
  (Code.rangeFunc g ps assign body).wpIn Fence.wide d P Q a w:=by
 have hsz:w0.heap.size<=w.heap.size:=hs.below.size
 have hown:OwnFrom w.heap.size (λpre W=>St B0 w0 ι (mp pre) W/\Marks Ds W/\∀D∈Ds,D<w.heap.size):=by
  rintro pre W W' row ⟨h1,h2,h3⟩ hgr hr;refine⟨h1.grown (hc pre) hsz hgr hr,λD hD=>?_,h3⟩;have hlt:D<W.heap.size:=(Array.getElem?_eq_some_iff.1 (h2 D hD)).1;rw[hgr.block D hlt λe=>?_]
  ·exact h2 D hD
  ·obtain⟨hB,_⟩:=hr D e.symm;have:=h3 D hD;omega
 have hDlt:∀D∈Ds,D<w.heap.size:=λD hD=>(Array.getElem?_eq_some_iff.1 (hDs D hD)).1
 refine wpIn_rangeFunc_ownG (F:=Fence.wide) rfl hd hg trivial eg hseq hKt hKb (Below.refl _ _) hps (λpre W=>St B0 w0 ι (mp pre) W/\Marks Ds W/\∀D∈Ds,D<w.heap.size) (λ_ _ _=>False) hown (λ_ _ _ _ _ hf _ _=>hf) ⟨h0▸hs,hDs,hDlt⟩ a₁ hassign ?_ ?_ ?_
 ·rintro l pre x W ⟨h1,h2,h3⟩ _;refine hbody l pre x W _ (by rintro⟨_,_,h⟩;exact h) h1 λa' W' hk hst=>?_;exact⟨hk.from _,hKp _ W W' hst,hst,h2.keeps hk,h3⟩
 ·rintro D xs W hD hS ⟨h1,h2,h3⟩ hk;refine hQ D xs W hD hS h1 λD' hD'=>?_;rcases List.mem_cons.1 hD' with rfl|hD'
  ·exact hk
  ·exact h2 D' hD'
 ·rintro D c pre W _ _ hf _;exact hf.elim
end
section
variable{P:Program}{K:TypeId->Bool}{B0:Nat}{w0 W:World}{ι:Ren}{M M':Mem}{t:AF}{a:Act}{h:H.Hint}{o:CX}{N d:Nat}{c:Code}{ds:List Nat}{vs:List Value}{qs:List Prop}{Q:Exit->Act->World->Prop}{e:Ex}
noncomputable def LW(h:H.Hint)(P:Program)(K:TypeId->Bool)(c:Code)(N:Nat)(ds:List Nat)(t:AF)(M:Mem):Option (H.TT (Ex×List Value×Mem)):=
 H.codeT h c P K 1 (H.callT h P K 1 20) (λbody _ k t m q=>Y.loopF body k t m q) N 20 t M λe t m=>some ((e,ds.map t.at,m),[],[])
theorem bO(h1:∀f v args m,h.call f=some v->h.says f args m v->o f args m=some (v,h.eff f m))(h2:∀f,h.call f=none->∀a m,o f a m=none)
  (hr:(LW h P K c N ds t M).map (λx=>(x.1,x.2.2))=some ((e,vs,M'),qs)) (hp:((LW h P K c N ds t M).map λx=>x.2.1.map Prod.fst)=((LW h P K c N ds t M).map λx=>x.2.1.map Prod.snd)) (hq:∀q∈qs,q):
  ∃t',AJ P K 1 (CJ P K 1 o 20) (AY P K 1 (CJ P K 1 o 20) N) N 20 c t M=some (e,t',M')/\ds.map t'.at=vs:=by
 obtain⟨e',t',m',a1,a2⟩:=H.codeO_H (H:=h) (o:=o) (P:=P) (K:=K) (G:=1) (j:=20) (n:=N) (k:=20) (c:=c) (t:=t) (m:=M) (g:=λe t m=>(e,ds.map t.at,m)) h1 h2 hr hp hq
 have e1:e'=_:=congrArg (λx=>x.1) a2
 have e2:ds.map t'.at=_:=congrArg (λx=>x.2.1) a2
 have e3:m'=_:=congrArg (λx=>x.2.2) a2
 rw[e1,e3]at a1
 exact⟨t',a1,e2⟩
theorem Db(Bw:P.follows .mixedOrders=true)(hK:Plain P K)(Ee:P8 P)(ho:CU P B0 1 o)(hg:B9 o)
  (h1:∀f v args m,h.call f=some v->h.says f args m v->o f args m=some (v,h.eff f m)) (h2:∀f,h.call f=none->∀a m,o f a m=none)
  (hr:(LW h P K c N ds t M).map (λx=>(x.1,x.2.2))=some ((e,vs,M'),qs)) (hp:((LW h P K c N ds t M).map λx=>x.2.1.map Prod.fst)=((LW h P K c N ds t M).map λx=>x.2.1.map Prod.snd)) (hq:∀q∈qs,q)
  (hs:St B0 w0 ι M W) (hc:GF M) (ht:Bg ι N t a)
  (hQ:∀ι' a' W' t',St B0 w0 ι' M' W'->Bg ι' N t' a'->ds.map t'.at=vs->a'.defers=a.defers->(∀b,b<M.size->ι' b=ι b)->FD W W'->Q e.to a' W'):c.wpIn Fence.wide d P Q a W:=by
 obtain⟨t',a1,a2⟩:=bO h1 h2 hr hp hq
 exact piece Bw hK (Cr Bw hK Ee ho hg 20) (CL hg 20) a1 hs hc ht λι' a' W' g1 g2 g3 g4 g5=>hQ ι' a' W' t' g1 g2 a2 g3 g4 g5
theorem GS{l:Nat}(Bw:P.follows .mixedOrders=true)(hK:Plain P K)(Ee:P8 P)(ho:CU P B0 1 o)(hg:B9 o)
  (h1:∀f v args m,h.call f=some v->h.says f args m v->o f args m=some (v,h.eff f m)) (h2:∀f,h.call f=none->∀a m,o f a m=none) (hfl:JO c=true)
  (hr:(LW h P K c N ds t M).map (λx=>(x.1,x.2.2))=some ((e,vs,M'),qs)) (hp:((LW h P K c N ds t M).map λx=>x.2.1.map Prod.fst)=((LW h P K c N ds t M).map λx=>x.2.1.map Prod.snd)) (hq:∀q∈qs,q)
  (hs:St B0 w0 ι M W) (hc:GF M) (ht:Bg ι N t a) (hx:¬LetsOut Q)
  (hQ:∀ι' a' W' t',St B0 w0 ι' M' W'->Bg ι' N t' a'->ds.map t'.at=vs->a'.defers=a.defers->(∀b,b<M.size->ι' b=ι b)->FD W W'->Q e.to a' W'):c.wpIn (FR l) d P Q a W:=by
 obtain⟨t',a1,a2⟩:=bO h1 h2 hr hp hq
 exact j4 Bw hK (Cr Bw hK Ee ho hg 20) (CL hg 20) hfl a1 hs hc ht hx λι' a' W' g1 g2 g3 g4 g5=>hQ ι' a' W' t' g1 g2 a2 g3 g4 g5
theorem G9{t':AF}:∀{ds:List Nat} {vs:List Value},ds.map t'.at=vs->∀p∈ds.zip vs,t'.at p.1=p.2
 | [],_,_,p,hp=>by simp at hp
 |d::ds,[],h,p,hp=>by simp at h
 |d::ds,v::vs,h,p,hp=>by
  simp only[List.map_cons,List.cons.injEq]at h;simp only[List.zip_cons_cons,List.mem_cons]at hp;rcases hp with rfl|hp
  ·exact h.1
  ·exact G9 h.2 p hp
theorem Jg{l id:Nat}{op:Oper}{x:Operand}{K':Act->World->Prop}(hop:op.op= .assign x)(hg:op.guard=none)(hk:K' (a.put op.dst (a.eval x)) W):(Code.region id #[op] false).wpIn (FR l) d P (Exit.then K' (λ_ _ _=>False)) a W:=by
 refine wpIn_region ?_
 show wpOpsIn (FR l) d P #[op] _ [0] a W
 have e:Oper.semAt (FR l).round a.eval op=execOp a.eval op:=Oper.semAt_some l _ _ (by intro c hc;rw[hop]at hc;cases hc)
 refine WB (o:=op) (v:=a.eval x) (w':=W) rfl hg (λ_=>trivial) (by rw[e];exact run_assign hop) ?_
 exact hk
theorem Bg.setI(ht:Bg ι N t a){p:Nat}(hp:p<N){v v':Value}(hv:AZ ι v v'):Bg ι N (t.set p v) {a with tmps:=a.tmps.setIfInBounds p v'}:=ht.put hp hv
end
end
end Go.DI
namespace Go.DI
noncomputable section
section
variable{P:Program}{K:TypeId->Bool}{M M':Mem}{t:AF}{h:H.Hint}{o:CX}{N k:Nat}{c:Code}{ds:List Nat}{vs:List Value}{qs:List Prop}{e:Ex}
noncomputable def Hy(h:H.Hint)(P:Program)(K:TypeId->Bool)(k:Nat)(c:Code)(N:Nat)(ds:List Nat)(t:AF)(M:Mem):Option (H.TT (Ex×List Value×Mem)):=
 H.codeT h c P K 1 (H.callT h P K 1 20) (λbody _ k t m q=>Y.loopF body k t m q) N k t M λe t m=>some ((e,ds.map t.at,m),[],[])
theorem j5(h1:∀f v args m,h.call f=some v->h.says f args m v->o f args m=some (v,h.eff f m))(h2:∀f,h.call f=none->∀a m,o f a m=none)
  (hr:(Hy h P K k c N ds t M).map (λx=>(x.1,x.2.2))=some ((e,vs,M'),qs)) (hp:((Hy h P K k c N ds t M).map λx=>x.2.1.map Prod.fst)=((Hy h P K k c N ds t M).map λx=>x.2.1.map Prod.snd)) (hq:∀q∈qs,q):
  ∃t',AJ P K 1 (CJ P K 1 o 20) (AY P K 1 (CJ P K 1 o 20) N) N k c t M=some (e,t',M')/\ds.map t'.at=vs:=by
 obtain⟨e',t',m',a1,a2⟩:=H.codeO_H (H:=h) (o:=o) (P:=P) (K:=K) (G:=1) (j:=20) (n:=N) (k:=k) (c:=c) (t:=t) (m:=M) (g:=λe t m=>(e,ds.map t.at,m)) h1 h2 hr hp hq
 have e1:e'=_:=congrArg (λx=>x.1) a2
 have e2:ds.map t'.at=_:=congrArg (λx=>x.2.1) a2
 have e3:m'=_:=congrArg (λx=>x.2.2) a2
 rw[e1,e3]at a1
 exact⟨t',a1,e2⟩
end
end
end Go.DI
namespace Go.Proofs.YtgjflcgmieiafaaGreatDoor
open Go Go.DI Go.DI.Kit Go.Proofs Go.Cmp
noncomputable section
noncomputable def kg:Code:=AP Tryz.f11
noncomputable def Ue(i:Nat):Array Oper:=JF kg i
noncomputable def Uf:Code:= .seq (.region 5 (Ue 5) false) (.seq (.cond (.tmp 23) .skip (.exit 2)) (.seq (.block 3 (.seq (.region 6 (Ue 6) false) (.seq (.region 7 (Ue 7) false) (.cond (.tmp 30) (.exit 1) .skip)))) (.region 8 (Ue 8) false)))
noncomputable def Su:Code:= .seq (.region 2 (Ue 2) false) (.seq (.cond (.tmp 15) .skip (.exit 0)) (.seq (.block 1 (.seq (.region 3 (Ue 3) false) (.seq (.seq (.region 4 (Ue 4) false) (.block 2 (.loop Uf))) (.seq (.region 9 (Ue 9) false) .ret)))) (.region 10 (Ue 10) false)))
noncomputable def rK(lt hb:Bool)(tv:List Value)(o17:CX):H.Hint where
 ix t:=Nat.beq t 48
 ld _ t _:=cond (Nat.beq t 52) (some (.agg ⟨tv⟩)) none
 cmp op t:=cond (Nat.beq t 3) (BinOp.rec (motive:=λ_=>Option Bool) none none none none none none none none none none none none none (some lt) none none none op) none
 ap _:=none
 call f:=cond (Nat.beq f 17) (some (.bool hb)) none
 spec _ _ _ _:=False
 blk:=0
 specM f:=some λargs m v=>o17 f args m=some (v,m)
 st t _:=cond (Nat.beq t 52) (some (.cells true tv)) none
noncomputable def zT:List Value:= [.bool false, .int .i64 0, .int .i64 0, .int .i64 0, .int .u64 0, .int .u64 0, .int .u64 0]
noncomputable def vJ:List Nat:= [1,2,8,9,12,13,14,20,21,22]
noncomputable def Yd(pv rv tv9:Value)(port:Int)(a:Option Addr)(n cap:Nat)(j i rn i14:Int):List (Nat×Value):=vJ.zip [pv, .int .u32 port, .int .i64 i,tv9,rv, .int .i64 rn, .int .i64 i14, .slice a n cap, .int .i64 (Int.ofNat n), .int .i64 j]
noncomputable def I6(M:Mem)(tv:List Value):Mem:=(M.push (.cells true zT)).set M.size (.cells true tv)
theorem vK(k:Nat)(x:Nat->Value)(o17:CX)(pv rv tv9:Value)(port:Int)(tb:Nat)(sp:Option Nat)(n cap:Nat)(j i rn i14:Int)(neg:Bool)(kind pos size mask lo hi:Int)(M:Mem):
  Rn (Hy (rK true true (AK neg kind pos size mask lo hi) o17) Tryz.prog kp k Uf 36 vJ (AB 36 (up x (Yd pv rv tv9 port (some ⟨tb,0,sp⟩) n cap j i rn i14))) M) ((.normal,[pv, .int .u32 port, .int .i64 i,tv9,rv, .int .i64 rn, .int .i64 i14, .slice (some ⟨tb,0,sp⟩) n cap, .int .i64 (Int.ofNat n), .int .i64 (IntKind.wrap .i64 (Int.add j 1))],I6 M (AK neg kind pos size mask lo hi)),
    [BY Tryz.prog kp .lss 3 (.int .i64 j) (.int .i64 (Int.ofNat n))=some (.bool true),(0<=j/\j< (n:Int)),H.ldOk (M.get tb) (Nat.add 0 (Nat.mul j.toNat 7)) true 7 (.agg ⟨AK neg kind pos size mask lo hi⟩),H.stOk Tryz.prog ((M.push (.cells true zT)).get M.size) 52 0 (.agg ⟨AK neg kind pos size mask lo hi⟩) (.cells true (AK neg kind pos size mask lo hi)),H.ldOk ((I6 M (AK neg kind pos size mask lo hi)).get M.size) 0 true 7 (.agg ⟨AK neg kind pos size mask lo hi⟩),o17 17 [.agg ⟨AK neg kind pos size mask lo hi⟩,pv, .int .u32 port] (I6 M (AK neg kind pos size mask lo hi))=some (.bool true,I6 M (AK neg kind pos size mask lo hi))]):=⟨by kernel_rfl,by kernel_rfl⟩
theorem vL(k:Nat)(x:Nat->Value)(o17:CX)(pv rv tv9:Value)(port:Int)(tb:Nat)(sp:Option Nat)(n cap:Nat)(j i rn i14:Int)(neg:Bool)(kind pos size mask lo hi:Int)(M:Mem):
  Rn (Hy (rK true false (AK neg kind pos size mask lo hi) o17) Tryz.prog kp k Uf 36 vJ (AB 36 (up x (Yd pv rv tv9 port (some ⟨tb,0,sp⟩) n cap j i rn i14))) M) ((.exit 1,[pv, .int .u32 port, .int .i64 i,tv9,rv, .int .i64 rn, .int .i64 i14, .slice (some ⟨tb,0,sp⟩) n cap, .int .i64 (Int.ofNat n), .int .i64 j],I6 M (AK neg kind pos size mask lo hi)),
    [BY Tryz.prog kp .lss 3 (.int .i64 j) (.int .i64 (Int.ofNat n))=some (.bool true),(0<=j/\j< (n:Int)),H.ldOk (M.get tb) (Nat.add 0 (Nat.mul j.toNat 7)) true 7 (.agg ⟨AK neg kind pos size mask lo hi⟩),H.stOk Tryz.prog ((M.push (.cells true zT)).get M.size) 52 0 (.agg ⟨AK neg kind pos size mask lo hi⟩) (.cells true (AK neg kind pos size mask lo hi)),H.ldOk ((I6 M (AK neg kind pos size mask lo hi)).get M.size) 0 true 7 (.agg ⟨AK neg kind pos size mask lo hi⟩),o17 17 [.agg ⟨AK neg kind pos size mask lo hi⟩,pv, .int .u32 port] (I6 M (AK neg kind pos size mask lo hi))=some (.bool false,I6 M (AK neg kind pos size mask lo hi))]):=⟨by kernel_rfl,by kernel_rfl⟩
theorem nU(k:Nat)(x:Nat->Value)(o17:CX)(pv rv tv9:Value)(port:Int)(a:Option Addr)(n cap:Nat)(j i rn i14:Int)(M:Mem):
  Rn (Hy (rK false false [] o17) Tryz.prog kp k Uf 36 vJ (AB 36 (up x (Yd pv rv tv9 port a n cap j i rn i14))) M) ((.exit 2,[pv, .int .u32 port, .int .i64 i,tv9,rv, .int .i64 rn, .int .i64 i14, .slice a n cap, .int .i64 (Int.ofNat n), .int .i64 j],M),[BY Tryz.prog kp .lss 3 (.int .i64 j) (.int .i64 (Int.ofNat n))=some (.bool false)]):=⟨by kernel_rfl,by kernel_rfl⟩
theorem Qm{lt hb:Bool}{tv:List Value}(f:FuncId)(v:Value)(args:List Value)(m:Mem)(hc:(rK lt hb tv Sq).call f=some v)(hs:(rK lt hb tv Sq).says f args m v):Sq f args m=some (v,(rK lt hb tv Sq).eff f m):=hs
theorem Mk{lt hb:Bool}{tv:List Value}(f:FuncId)(hc:(rK lt hb tv Sq).call f=none)(a:List Value)(m:Mem):Sq f a m=none:=Cy (by rintro rfl;cases hc) a m
structure Qn(M:Mem)(pv:Value)(pk:List Int):Prop where
 top:M.top
 gl0:M.get 0= .cells false gl
 pos:1<=M.size
 pk:ID M pv pk
theorem Qn.ext{M M':Mem}{pv:Value}{pk:List Int}(h:Qn M pv pk)(x:Ext M M'):Qn M' pv pk:=by
 have hz:0<M.size:=h.pos
 refine⟨x.top h.top,(x.get 0 hz).trans h.gl0,Nat.le_trans h.pos x.size,?_⟩
 rcases h.pk with g|⟨k,sp,cap,own,h1,h2,h3,h4,h5,h6⟩
 ·exact .inl g
 ·exact .inr ⟨k,sp,cap,own,h1,h2,h3,Nat.lt_of_lt_of_le h4 x.size,h5,(x.get k h4).trans h6⟩
noncomputable abbrev Ug:Ed:=CJ Tryz.prog kp 1 Sq 20
noncomputable abbrev Ww(k:Nat):AF->Mem->Option (Ex×AF×Mem):=AJ Tryz.prog kp 1 Ug (AY Tryz.prog kp 1 Ug 36) 36 k Uf
theorem Sv(M:Mem)(tv:List Value):Ext M (I6 M tv):=Ext.fresh
theorem dK(M:Mem)(tv:List Value):(I6 M tv).get M.size= .cells true tv:=Mem.get_set_same ..
end
end Go.Proofs.YtgjflcgmieiafaaGreatDoor
namespace Go.DI
noncomputable section
def Es(n:Nat)(t:AF):Prop:=∃x,t=AB n x
def Gr(n:Nat):Prop:=∀(x:Nat->Value) (d:Nat) (v:Value),d<n->∃x',AF.set (AB n x) d v=AB n x'
section
variable{P:Program}{K:TypeId->Bool}{G n k:Nat}{cf:Ed}
theorem It(hs:Gr n){t:AF}{dst:Option Tmp}{v:Value}(h:Es n t)(hd:HN n dst=true):Es n (putD t dst v):=by
 cases dst with
 |none=>exact h
 |some d=>
  obtain⟨x,rfl⟩:=h;exact hs x d v (by simpa[HN]using hd)
theorem LP(hs:Gr n){ops:List Oper}:∀(l:List Oper) (t:AF) (m:Mem) (t':AF) (m':Mem),Gn P K G cf n ops l t m=some (t',m')->Es n t->Es n t'
 | [],t,m,t',m',h,ht=>by simp[Gn]at h;rw[←h.1];exact ht
 |o::l,t,m,t',m',h,ht=>by
  simp only[Gn]at h;split at h<;>try (simp at h;done)
  rename_i hd;split at h
  ·split at h<;>try (simp at h;done)
   exact LP hs l _ _ _ _ h (It hs ht hd)
  ·exact LP hs l _ _ _ _ h (It hs ht hd)
theorem LQ(hs:Gr n){ops:List Oper}:∀(l:List Oper) (t:AF) (m:Mem) (rs:List Rec) (t':AF) (m':Mem),HO P K G cf n ops l t m=some (rs,t',m')->Es n t->Es n t'
 | [],t,m,rs,t',m',h,ht=>by simp[HO]at h;rw[←h.2.1];exact ht
 |o::l,t,m,rs,t',m',h,ht=>by
  simp only[HO]at h;split at h<;>try (simp at h;done)
  rename_i hd;split at h
  ·split at h<;>try (simp at h;done)
   split at h<;>simp at h;rename_i h1;rw[←h.2.1];exact LQ hs l _ _ _ _ _ h1 (It hs ht hd)
  ·split at h<;>simp at h;rename_i h1;rw[←h.2.1];exact LQ hs l _ _ _ _ _ h1 (It hs ht hd)
theorem UE(hs:Gr n){l:List Oper}{t t':AF}{m m':Mem}(h:AY P K G cf n l t m=some (t',m'))(ht:Es n t):Es n t':=by
 unfold AY at h
 split at h<;>try (simp at h;done)
 split at h<;>try (simp at h;done)
 rename_i rs t₁ m₁ hrec
 split at h<;>try (simp at h;done)
 split at h<;>simp at h
 rw[←h.1]
 exact LQ hs _ _ _ _ _ _ hrec ht
theorem N5{b:AF->Mem->Option (Ex×AF×Mem)}(hb:∀t m e t' m',b t m=some (e,t',m')->Es n t->Es n t'):∀(k:Nat) (t:AF) (m:Mem) (e:Ex) (t':AF) (m':Mem),BM b k t m=some (e,t',m')->Es n t->Es n t'
 |0,t,m,e,t',m',h,_=>by simp[BM]at h
 |k+1,t,m,e,t',m',h,ht=>by
  simp only[BM]at h;split at h
  ·rename_i h1;exact N5 hb k _ _ _ _ _ h (hb _ _ _ _ _ h1 ht)
  ·exact hb _ _ _ _ _ h ht
theorem UF(hs:Gr n):∀(c:Code) (t:AF) (m:Mem) (e:Ex) (t':AF) (m':Mem),AJ P K G cf (AY P K G cf n) n k c t m=some (e,t',m')->Es n t->Es n t':=by
 intro c
 induction c with
 |skip=>intro t m e t' m' h ht;simp[AJ]at h;rw[←h.2.1];exact ht
 |label l=>intro t m e t' m' h ht;simp[AJ]at h;rw[←h.2.1];exact ht
 |region id ops draw=>
  intro t m e t' m' h ht;simp only[AJ]at h;split at h<;>simp at h;rename_i h1;rw[←h.2.1];cases draw
  ·exact LP hs _ _ _ _ _ h1 ht
  ·exact UE hs h1 ht
 |seq x y ihx ihy=>
  intro t m e t' m' h ht;simp only[AJ]at h;split at h
  ·rename_i h1;exact ihy _ _ _ _ _ h (ihx _ _ _ _ _ h1 ht)
  ·exact ihx _ _ _ _ _ h ht
 |cond c x y ihx ihy=>
  intro t m e t' m' h ht;simp only[AJ]at h;split at h<;>try (simp at h;done)
  ·exact ihx _ _ _ _ _ h ht
  ·exact ihy _ _ _ _ _ h ht
 |block id c ih=>
  intro t m e t' m' h ht;simp only[AJ]at h;split at h
  ·rename_i h1;split at h<;>simp at h<;>rw[←h.2.1] <;>exact ih _ _ _ _ _ h1 ht
  ·exact ih _ _ _ _ _ h ht
 |loop c ih=>intro t m e t' m' h ht;simp only[AJ]at h;exact N5 (λt m e t' m' h=>ih t m e t' m' h) _ _ _ _ _ _ h ht
 |exit id=>intro t m e t' m' h ht;simp[AJ]at h;rw[←h.2.1];exact ht
 |ret=>intro t m e t' m' h ht;simp[AJ]at h;rw[←h.2.1];exact ht
 |rangeFunc=>intro t m e t' m' h;simp[AJ]at h
 |scope c ih=>intro t m e t' m' h ht;simp only[AJ]at h;exact ih _ _ _ _ _ h ht
 |goto=>intro t m e t' m' h;simp[AJ]at h
 |refuse=>intro t m e t' m' h;simp[AJ]at h
end
end
end Go.DI
namespace Go.DI
open Go.DI.Kit
noncomputable section
section
variable{P:Program}{K:TypeId->Bool}{M M':Mem}{h:H.Hint}{o:CX}{N k:Nat}{c:Code}{ds:List Nat}{vs:List Value}{qs:List Prop}{e:Ex}{x:Nat->Value}
theorem bP{t:AF}:∀{ds:List Nat} {p:Nat×Value},p∈ds.zip (ds.map t.at)->p.1∈ds/\t.at p.1=p.2
 | [],p,h=>by simp at h
 |d::ds,p,h=>by
  rw[List.map_cons,List.zip_cons_cons]at h;rcases List.mem_cons.1 h with rfl|h
  ·exact⟨List.mem_cons_self ..,rfl⟩
  ·have:=bP h;exact⟨List.mem_cons_of_mem _ this.1,this.2⟩
theorem BR(hs:Gr N)(hd:ds.all (λd=>Nat.blt d N)=true)(h1:∀f v args m,h.call f=some v->h.says f args m v->o f args m=some (v,h.eff f m))(h2:∀f,h.call f=none->∀a m,o f a m=none)
  (hr:(Hy h P K k c N ds (AB N x) M).map (λx=>(x.1,x.2.2))=some ((e,vs,M'),qs)) (hp:((Hy h P K k c N ds (AB N x) M).map λx=>x.2.1.map Prod.fst)=((Hy h P K k c N ds (AB N x) M).map λx=>x.2.1.map Prod.snd)) (hq:∀q∈qs,q):
  ∃x',AJ P K 1 (CJ P K 1 o 20) (AY P K 1 (CJ P K 1 o 20) N) N k c (AB N x) M=some (e,AB N (up x' (ds.zip vs)),M'):=by
 obtain⟨t',a1,a2⟩:=j5 h1 h2 hr hp hq
 obtain⟨y,rfl⟩:=UF hs _ _ _ _ _ _ a1 ⟨x,rfl⟩
 refine⟨y,?_⟩
 rw[a1,up_self y (ds.zip vs) λp hp=>?_]
 rw[←a2]at hp
 have h3:=bP hp
 have h4:p.1<N:=Nat.blt_eq▸(List.all_eq_true.1 hd p.1 h3.1)
 rw[HU,if_pos h4]at h3
 exact h3.2
variable{G:Nat}{cf:Ed}{t t':AF}{m m':Mem}
theorem Dz(i:Nat)(c:Code)(he:e≠ .normal) (h:AJ P K G cf (AY P K G cf N) N k (Dl ((items c).take i)) t m=some (e,t',m')):
  AJ P K G cf (AY P K G cf N) N k c t m=some (e,t',m'):=by
 rw[IX c,←List.take_append_drop i (items c),HS,←Dg,h]
 cases e with
 |normal=>exact absurd rfl he
 |exit id=>rfl
 |ret=>rfl
theorem CV{b:AF->Mem->Option (Ex×AF×Mem)}{t1:AF}{m1:Mem}{r:Option (Ex×AF×Mem)}(h1:b t m=some (.normal,t1,m1))(h2:BM b k t1 m1=r):BM b (k+1) t m=r:=by
 simp only[BM,h1,h2]
theorem Bm{b:AF->Mem->Option (Ex×AF×Mem)}(h1:b t m=some (e,t',m'))(he:e≠ .normal):BM b (k+1) t m=some (e,t',m'):=by
 simp only[BM,h1]
 cases e with
 |normal=>exact absurd rfl he
 |exit j=>rfl
 |ret=>rfl
theorem j6{a b:Code}{id:Nat}(h:AJ P K G cf (AY P K G cf N) N k a t m=some (.exit id,t',m')):AJ P K G cf (AY P K G cf N) N k (.seq (.block id a) b) t m=AJ P K G cf (AY P K G cf N) N k b t' m':=by
 have hb:AJ P K G cf (AY P K G cf N) N k (.block id a) t m=some (.normal,t',m'):=by simp only[AJ,h,if_true]
 rw[AJ,hb]
theorem bQ{a b:Code}{id:Nat}(h:AJ P K G cf (AY P K G cf N) N k a t m=some (.normal,t',m')):AJ P K G cf (AY P K G cf N) N k (.seq (.block id a) b) t m=AJ P K G cf (AY P K G cf N) N k b t' m':=by
 have hb:AJ P K G cf (AY P K G cf N) N k (.block id a) t m=some (.normal,t',m'):=by simp only[AJ,h]
 rw[AJ,hb]
theorem SX{a b:Code}{id:Nat}(h:AJ P K G cf (AY P K G cf N) N k a t m=some (e,t',m'))(he:e≠ .normal)(hi:e≠ .exit id):AJ P K G cf (AY P K G cf N) N k (.seq (.block id a) b) t m=some (e,t',m'):=by
 have hb:AJ P K G cf (AY P K G cf N) N k (.block id a) t m=some (e,t',m'):=by
  simp only[AJ,h];cases e with
  |normal=>exact absurd rfl he
  |exit j=>exact if_neg λh=>hi (by rw[h])
  |ret=>rfl
 rw[AJ,hb]
 cases e with
 |normal=>exact absurd rfl he
 |exit j=>rfl
 |ret=>rfl
theorem GG(i:Nat)(c:Code){id:Nat}{lb:Code}{rest:List Code}{t1 t2:AF}{M0 M1 M2:Mem}(hd:(items c).drop i= .block id (.loop lb)::rest) (h1:AJ P K G cf (AY P K G cf N) N k (Dl ((items c).take i)) t M0=some (.normal,t1,M1))
  (h2:BM (AJ P K G cf (AY P K G cf N) N k lb) k t1 M1=some (.exit id,t2,M2)):AJ P K G cf (AY P K G cf N) N k c t M0=AJ P K G cf (AY P K G cf N) N k (Dl rest) t2 M2:=by
 rw[HT i c h1,Dg,hd]
 have hb:AJ P K G cf (AY P K G cf N) N k (.block id (.loop lb)) t1 M1=some (.normal,t2,M2):=by
  simp only[AJ,h2,if_true]
 simp only[HR,hb,Dg]
theorem He(i:Nat)(c:Code){id:Nat}{lb:Code}{rest:List Code}{t1 t2:AF}{M0 M1 M2:Mem}(hd:(items c).drop i= .block id (.loop lb)::rest) (h1:AJ P K G cf (AY P K G cf N) N k (Dl ((items c).take i)) t M0=some (.normal,t1,M1))
  (h2:BM (AJ P K G cf (AY P K G cf N) N k lb) k t1 M1=some (e,t2,M2)) (he:e≠ .normal) (hi:e≠ .exit id):AJ P K G cf (AY P K G cf N) N k c t M0=some (e,t2,M2):=by
 rw[HT i c h1,Dg,hd]
 have hb:AJ P K G cf (AY P K G cf N) N k (.block id (.loop lb)) t1 M1=some (e,t2,M2):=by
  simp only[AJ,h2];cases e with
  |normal=>exact absurd rfl he
  |exit j=>exact if_neg λh=>hi (by rw[h])
  |ret=>rfl
 simp only[HR,hb]
 cases e with
 |normal=>exact absurd rfl he
 |exit j=>rfl
 |ret=>rfl
theorem F9{f:FuncId}{fn:Func}{args vs:List Value}{M0 M1:Mem}(hf:P.funcs[f]?=some fn)(hc:fn.body=some c)(hn:max args.length fn.ntmps=N)
  (h:AJ P K G cf (AY P K G cf N) N k c (AB N (Bq args)) M0=some (.ret,t,M1)) (hr:DM P t M1 fn.results.toList=some vs):Co P K G cf k f args M0=some (F6 vs,M1):=by
 unfold Co
 rw[hf]
 simp only
 rw[hc]
 simp only
 rw[hn,h]
 simp only[UQ,hr]
end
end
end Go.DI
namespace Go.Proofs.YtgjflcgmieiafaaGreatDoor
open Go Go.DI Go.DI.Kit Go.Proofs Go.Cmp
noncomputable section
theorem Hu:Gr 36:=by
 intro x d v hd
 refine⟨up x [(d,v)],?_⟩
 iterate 36 (rcases d with _|d;· kernel_rfl)
 omega
theorem OL{X:Type}{g:X->List Value}{z:Nat}(hz:∀x,(g x).length=z){l:List X}{j:Nat}{x:X}(h:l[j]?=some x){own:Bool}{rest:List Value}{B:BH}(hB:B= .cells own (l.flatMap g++rest)):H.ldOk B (Nat.add 0 (Nat.mul j z)) true z (.agg ⟨g x⟩):=by
 subst hB
 refine⟨g x,?_,rfl⟩
 have h1:=Cj hz h rest
 have h2:=Cw hz (List.getElem?_eq_some_iff.1 h).1 rest
 rw[Y.lenLF_eq]at h2
 show(if Nat.add 0 (Nat.mul j z)+z<=(l.flatMap g++rest).length then some (((l.flatMap g++rest).drop (Nat.add 0 (Nat.mul j z))).take z)else none)=_
 rw[if_pos (show Nat.add 0 (Nat.mul j z)+z<=(l.flatMap g++rest).length from Nat.le_of_ble_eq_true h2),←h1,Y.subL_eq]
theorem Qo{c:List Value}{n:Nat}{own:Bool}(h:c.length=n):H.ldOk (.cells own c) 0 true n (.agg ⟨c⟩):=by
 refine⟨c,?_,rfl⟩
 show(if 0+n<=c.length then some ((c.drop 0).take n)else none)=_
 rw[if_pos (by omega),List.drop_zero,List.take_of_length_le (by omega)]
theorem kh{c:List Value}(hc:c.length=7)(t:A8):H.stOk Tryz.prog (.cells true c) 52 0 (.agg ⟨AQ t⟩) (.cells true (AQ t)):=λm b hg=>by
 rw[C4 (n:=7) fV rfl hg (by omega) rfl]
 congr 2
 show BH.cells true (splice c 0 (AQ t))=_
 unfold splice
 rw[List.take_zero,List.nil_append,List.drop_eq_nil_of_le (by show c.length<=0+7;omega),List.append_nil]
theorem Jr{i n:Nat}(h:i<n):BY Tryz.prog kp .lss 3 (.int .i64 (i:Int)) (.int .i64 (Int.ofNat n))=some (.bool true):=by
 simp[BY,BX,B1];omega
theorem Hj{i n:Nat}(h:¬i<n):BY Tryz.prog kp .lss 3 (.int .i64 (i:Int)) (.int .i64 (Int.ofNat n))=some (.bool false):=by
 simp[BY,BX,B1];omega
theorem HX{i:Nat}(h:i<1000000):IntKind.wrap .i64 (Int.add (i:Int) 1)=((i+1:Nat):Int):=by
 show IntKind.wrap .i64 ((i:Int)+1)=_
 rw[wrap_i64 ⟨by omega,by omega⟩]
 omega
theorem Kb{X:Type}{l:List X}{j:Nat}{x:X}(h:l[j]?=some x):l.drop j=x::l.drop (j+1):=by
 obtain⟨hj,e⟩:=List.getElem?_eq_some_iff.1 h
 rw[List.drop_eq_getElem_cons hj,e]
theorem Fa{M:Mem}{j:Nat}{x:BH}(h:Bo M j=some x):j<M.size/\M.get j=x:=by
 unfold Bo at h
 split at h
 ·rename_i h1;cases h;exact⟨h1,rfl⟩
 ·cases h
section
variable{M:Mem}{pv rv tv9:Value}{pk:List Int}{port i rn i14:Int}{tb cap:Nat}{sp:Option Nat}{ts:List A8}{rest:List Value}{own:Bool}{t:A8}
theorem Qp(h:Qn M pv pk)(t:A8):Qn (I6 M (AQ t)) pv pk:=h.ext (Sv _ _)
theorem kj(hS:Qn M pv pk)(hb:∀b∈pk,0<=b/\b<256)(hn:pk.length<=65535)(hp:0<=port/\port<4294967296)(hm:Cq t=true)(hr:C2 t):
  Sq 17 [.agg ⟨AQ t⟩,pv, .int .u32 port] (I6 M (AQ t))=some (.bool (BN t pk port),I6 M (AQ t)):=
 rB (Qp hS t).top (Qp hS t).gl0 (Qp hS t).pos hm hr hb hn (Qp hS t).pk hp
theorem kl(hS:Qn M pv pk)(hb:∀b∈pk,0<=b/\b<256)(hn:pk.length<=65535)(hp:0<=port/\port<4294967296)(hg:M.get tb= .cells own (ts.flatMap AQ++rest))(hl:ts.length<=100){j:Nat}(hj:ts[j]?=some t)(hm:Cq t=true)(hr:C2 t)(kk:Nat)(x:Nat->Value):
  ∃x',Ww kk (AB 36 (up x (Yd pv rv tv9 port (some ⟨tb,0,sp⟩) ts.length cap (j:Int) i rn i14))) M=some (if BN t pk port=true then .normal else .exit 1,AB 36 (up x' (Yd pv rv tv9 port (some ⟨tb,0,sp⟩) ts.length cap (if BN t pk port=true then((j+1:Nat):Int)else(j:Int)) i rn i14)),I6 M (AQ t)):=by
 have hlt:j<ts.length:=(List.getElem?_eq_some_iff.1 hj).1
 have hsay:=kj hS hb hn hp hm hr
 obtain⟨neg,kind,pos,size,mask,lo,hi⟩:=t
 have etc:AQ ⟨neg,kind,pos,size,mask,lo,hi⟩=AK neg kind pos size mask lo hi:=rfl
 have p1:=Jr hlt
 have p2:(0:Int)<=(j:Int)/\(j:Int)< (ts.length:Int):=by omega
 have p3:H.ldOk (M.get tb) (Nat.add 0 (Nat.mul (j:Int).toNat 7)) true 7 (.agg ⟨AK neg kind pos size mask lo hi⟩):=OL (g:=AQ) DO hj hg
 have p4:H.stOk Tryz.prog ((M.push (.cells true zT)).get M.size) 52 0 (.agg ⟨AK neg kind pos size mask lo hi⟩) (.cells true (AK neg kind pos size mask lo hi)):=by
  rw[Mem.get_push_same];exact kh rfl ⟨neg,kind,pos,size,mask,lo,hi⟩
 have p5:H.ldOk ((I6 M (AK neg kind pos size mask lo hi)).get M.size) 0 true 7 (.agg ⟨AK neg kind pos size mask lo hi⟩):=by
  rw[dK];exact Qo rfl
 rw[etc]at hsay ⊢
 by_cases hh:BN ⟨neg,kind,pos,size,mask,lo,hi⟩ pk port=true
 ·rw[if_pos hh,if_pos hh,←HX (by omega)];rw[hh]at hsay;obtain⟨q1,q2⟩:=vK kk x Sq pv rv tv9 port tb sp ts.length cap (j:Int) i rn i14 neg kind pos size mask lo hi M;obtain⟨x',h⟩:=BR Hu rfl Qm Mk q1 q2 (AA p1 (AA p2 (AA p3 (AA p4 (AA p5 (AA hsay AN))))));exact⟨x',h⟩
 ·rw[if_neg hh,if_neg hh];rw[Bool.not_eq_true]at hh;rw[hh]at hsay;obtain⟨q1,q2⟩:=vL kk x Sq pv rv tv9 port tb sp ts.length cap (j:Int) i rn i14 neg kind pos size mask lo hi M;obtain⟨x',h⟩:=BR Hu rfl Qm Mk q1 q2 (AA p1 (AA p2 (AA p3 (AA p4 (AA p5 (AA hsay AN))))));exact⟨x',h⟩
theorem Wx(hb:∀b∈pk,0<=b/\b<256)(hn:pk.length<=65535)(hp:0<=port/\port<4294967296)(hl:ts.length<=100)(hm:∀t∈ts,Cq t=true/\C2 t)(kk:Nat):
  ∀(d j:Nat),ts.length=j+d->∀(jj:Nat) (M:Mem) (x:Nat->Value),d+1<=jj->Qn M pv pk->(ts≠ []->tb<M.size/\M.get tb= .cells own (ts.flatMap AQ++rest))->
  ∃M' x' j',Ext M M'/\BM (Ww kk) jj (AB 36 (up x (Yd pv rv tv9 port (some ⟨tb,0,sp⟩) ts.length cap (j:Int) i rn i14))) M=some (.exit (if(ts.drop j).all (λt=>BN t pk port)=true then 2 else 1),AB 36 (up x' (Yd pv rv tv9 port (some ⟨tb,0,sp⟩) ts.length cap j' i rn i14)),M')
 |0,j,hj,jj,M,x,hjj,hS,hg=>by
  obtain⟨jj,rfl⟩:∃j',jj=j'+1:=⟨jj - 1,by omega⟩;obtain rfl:j=ts.length:=by omega
  obtain⟨q1,q2⟩:=nU kk x Sq pv rv tv9 port (some ⟨tb,0,sp⟩) ts.length cap (ts.length:Int) i rn i14 M;obtain⟨x',h⟩:=BR Hu rfl Qm Mk q1 q2 (AA (Hj (Nat.lt_irrefl _)) AN);refine⟨M,x',(ts.length:Int),Ext.refl _,?_⟩;rw[List.drop_length];exact Bm h (by simp)
 |d+1,j,hj,jj,M,x,hjj,hS,hg=>by
  obtain⟨jj,rfl⟩:∃j',jj=j'+1:=⟨jj - 1,by omega⟩;have hlt:j<ts.length:=by omega
  obtain⟨t,ht⟩:∃t,ts[j]?=some t:=⟨_,List.getElem?_eq_getElem hlt⟩;have hne:ts≠ []:=by rintro rfl;simp at hlt
  obtain⟨g1,g2⟩:=hg hne;have hmt:=hm t (List.mem_of_getElem? ht);obtain⟨x1,h1⟩:=kl (rv:=rv) (tv9:=tv9) (i:=i) (rn:=rn) (i14:=i14) (sp:=sp) (cap:=cap) hS hb hn hp g2 hl ht hmt.1 hmt.2 kk x;have hx:=Sv M (AQ t);have hd:ts.drop j=t::ts.drop (j+1):=Kb ht;rw[hd,List.all_cons];by_cases hh:BN t pk port=true
  ·rw[if_pos hh,if_pos hh]at h1;obtain⟨M2,x2,j2,e2,h2⟩:=Wx hb hn hp hl hm kk d (j+1) (by omega) jj (I6 M (AQ t)) x1 (by omega) (hS.ext hx) (λ_=>⟨Nat.lt_of_lt_of_le g1 hx.size,(hx.get tb g1).trans g2⟩);refine⟨M2,x2,j2,hx.trans e2,?_⟩;rw[hh,Bool.true_and];exact CV h1 h2
  ·rw[if_neg hh,if_neg hh]at h1;refine⟨I6 M (AQ t),x1,(j:Int),hx,?_⟩;rw[Bool.not_eq_true]at hh;rw[hh,Bool.false_and];exact Bm h1 (by simp)
theorem ko{a:Option Addr}(kk jj:Nat)(x:Nat->Value):∃x',BM (Ww kk) (jj+1) (AB 36 (up x (Yd pv rv tv9 port a 0 cap 0 i rn i14))) M=some (.exit 2,AB 36 (up x' (Yd pv rv tv9 port a 0 cap 0 i rn i14)),M):=by
 obtain⟨q1,q2⟩:=nU kk x Sq pv rv tv9 port a 0 cap 0 i rn i14 M
 obtain⟨x',h⟩:=BR Hu rfl Qm Mk q1 q2 (AA (Hj (i:=0) (n:=0) (Nat.lt_irrefl _)) AN)
 exact⟨x',Bm h (by simp)⟩
theorem dL{v:Value}(hb:∀b∈pk,0<=b/\b<256)(hn:pk.length<=65535)(hp:0<=port/\port<4294967296)(hl:ts.length<=100)(hm:∀t∈ts,Cq t=true/\C2 t)(kk jj:Nat)(hjj:101<=jj)(hS:Qn M pv pk)(hv:CS (Bo M) v ts):
  ∃a cap,v= .slice a ts.length cap/\∀x:Nat->Value,∃M' x' j',Ext M M'/\BM (Ww kk) jj (AB 36 (up x (Yd pv rv tv9 port a ts.length cap 0 i rn i14))) M=some (.exit (if ts.all (λt=>BN t pk port)=true then 2 else 1),AB 36 (up x' (Yd pv rv tv9 port a ts.length cap j' i rn i14)),M'):=by
 obtain⟨a,cap,rfl,hv⟩:=hv
 refine⟨a,cap,rfl,λx=>?_⟩
 by_cases e:ts= []
 ·subst e;obtain⟨jj,rfl⟩:∃j',jj=j'+1:=⟨jj - 1,by omega⟩;obtain⟨x',h⟩:=ko (M:=M) (pv:=pv) (rv:=rv) (tv9:=tv9) (port:=port) (cap:=cap) (i:=i) (rn:=rn) (i14:=i14) (a:=a) kk jj x;exact⟨M,x',0,Ext.refl _,h⟩
 ·obtain⟨b,sp,own,rest,rfl,hk⟩:=hv e;have:=Fa hk;exact Wx hb hn hp hl hm kk ts.length 0 (by omega) jj M x (by omega) hS λ_=>this
end
noncomputable def dM(lt:Bool)(rv:List Value)(sv:Value)(ve:Int):H.Hint where
 ix t:=Nat.beq t 36
 ld _ t _:=cond (Nat.beq t 50) (some (.agg ⟨rv⟩)) (cond (Nat.beq t 48) (some sv) (cond (Nat.beq t 24) (some (.int .u32 ve)) none))
 cmp op t:=cond (Nat.beq t 3) (BinOp.rec (motive:=λ_=>Option Bool) none none none none none none none none none none none none none (some lt) none none none op) none
 ap _:=none
 call f:=cond (Nat.beq f 17) (some (.bool true)) none
 spec _ _ _ _:=False
 blk:=0
 st t _:=cond (Nat.beq t 50) (some (.cells true rv)) none
noncomputable def zR:List Value:= [.slice none 0 0, .int .u32 0]
noncomputable def Uh(M:Mem)(rv:List Value):Mem:=(M.push (.cells true zR)).set M.size (.cells true rv)
noncomputable def vM:List Nat:= [1,2,12,13,14]
noncomputable def Ui(pv:Value)(port:Int)(a:Option Addr)(n cap:Nat)(i:Int):List (Nat×Value):=vM.zip [pv, .int .u32 port, .slice a n cap, .int .i64 (Int.ofNat n), .int .i64 i]
noncomputable def nV:Code:= .seq (.region 3 (Ue 3) false) (.seq (.seq (.region 4 (Ue 4) false) (.block 2 (.loop Uf))) (.seq (.region 9 (Ue 9) false) .ret))
theorem vN:(items Su).drop 2= [.block 1 nV, .region 10 (Ue 10) false]:=by kernel_rfl
theorem nW:(items nV).drop 2= .block 2 (.loop Uf)::(items nV).drop 3:=by kernel_rfl
theorem dN:(items kg).drop 3= .block 0 (.loop Su)::(items kg).drop 4:=by kernel_rfl
theorem rL(k:Nat)(x:Nat->Value)(pv:Value)(port:Int)(a:Option Addr)(n cap:Nat)(i:Int)(M:Mem):
  Rn (Hy (dM true [] undef 0) Tryz.prog kp k (Dl ((items Su).take 2)) 36 vM (AB 36 (up x (Ui pv port a n cap i))) M) ((.normal,[pv, .int .u32 port, .slice a n cap, .int .i64 (Int.ofNat n), .int .i64 i],M),[BY Tryz.prog kp .lss 3 (.int .i64 i) (.int .i64 (Int.ofNat n))=some (.bool true)]):=⟨by kernel_rfl,by kernel_rfl⟩
theorem dO(k:Nat)(x:Nat->Value)(pv:Value)(port:Int)(a:Option Addr)(n cap:Nat)(i:Int)(M:Mem):
  Rn (Hy (dM false [] undef 0) Tryz.prog kp k (Dl ((items Su).take 2)) 36 vM (AB 36 (up x (Ui pv port a n cap i))) M) ((.exit 0,[pv, .int .u32 port, .slice a n cap, .int .i64 (Int.ofNat n), .int .i64 i],M),[BY Tryz.prog kp .lss 3 (.int .i64 i) (.int .i64 (Int.ofNat n))=some (.bool false)]):=⟨by kernel_rfl,by kernel_rfl⟩
theorem vO(k:Nat)(x:Nat->Value)(pv:Value)(port:Int)(rb:Nat)(sp:Option Nat)(n cap:Nat)(i:Int)(ta:Option Addr)(tn tc:Nat)(ve:Int)(M:Mem):
  Rn (Hy (dM true [.slice ta tn tc, .int .u32 ve] (.slice ta tn tc) 0) Tryz.prog kp k (Dl ((items nV).take 2)) 36 vJ (AB 36 (up x (Ui pv port (some ⟨rb,0,sp⟩) n cap i))) M) ((.normal,[pv, .int .u32 port, .int .i64 i, .pointer (some ⟨M.size,0,none⟩), .slice (some ⟨rb,0,sp⟩) n cap, .int .i64 (Int.ofNat n), .int .i64 i, .slice ta tn tc, .int .i64 (Int.ofNat tn), .int .i64 0],Uh M [.slice ta tn tc, .int .u32 ve]),
    [(0<=i/\i< (n:Int)),H.ldOk (M.get rb) (Nat.add 0 (Nat.mul i.toNat 2)) true 2 (.agg ⟨[.slice ta tn tc, .int .u32 ve]⟩),H.stOk Tryz.prog ((M.push (.cells true zR)).get M.size) 50 0 (.agg ⟨[.slice ta tn tc, .int .u32 ve]⟩) (.cells true [.slice ta tn tc, .int .u32 ve]),H.ldOk ((Uh M [.slice ta tn tc, .int .u32 ve]).get M.size) 0 false 1 (.slice ta tn tc)]):=⟨by kernel_rfl,by kernel_rfl⟩
theorem vP(k:Nat)(x:Nat->Value)(pv rv:Value)(port:Int)(a:Option Addr)(z n cap:Nat)(j i rn i14 ve:Int)(M:Mem):
  Rn (Hy (dM true [] undef ve) Tryz.prog kp k (Dl ((items nV).drop 3)) 36 [6,7] (AB 36 (up x (Yd pv rv (.pointer (some ⟨z,0,none⟩)) port a n cap j i rn i14))) M) ((.ret,[.int .u32 ve, .int .i64 i],M),[H.ldOk (M.get z) (Nat.add 0 1) false 1 (.int .u32 ve)]):=⟨by kernel_rfl,by kernel_rfl⟩
theorem vQ(k:Nat)(x:Nat->Value)(pv rv tv9:Value)(port:Int)(a:Option Addr)(n cap:Nat)(j i rn i14:Int)(M:Mem):
  Rn (Hy (dM true [] undef 0) Tryz.prog kp k (.region 10 (Ue 10) false) 36 vM (AB 36 (up x (Yd pv rv tv9 port a n cap j i rn i14))) M) ((.normal,[pv, .int .u32 port,rv, .int .i64 rn, .int .i64 (IntKind.wrap .i64 (Int.add i14 1))],M),[]):=⟨by kernel_rfl,by kernel_rfl⟩
theorem vR(k:Nat)(pv:Value)(port:Int)(a:Option Addr)(n cap:Nat)(M:Mem):
  Rn (Hy (dM true [] undef 0) Tryz.prog kp k (Dl ((items kg).take 3)) 36 vM (AB 36 (Bq [.slice a n cap,pv, .int .u32 port])) M) ((.normal,[pv, .int .u32 port, .slice a n cap, .int .i64 (Int.ofNat n), .int .i64 0],M),[]):=⟨by kernel_rfl,by kernel_rfl⟩
theorem vS(k:Nat)(x:Nat->Value)(pv:Value)(port:Int)(a:Option Addr)(n cap:Nat)(i:Int)(M:Mem):
  Rn (Hy (dM true [] undef 0) Tryz.prog kp k (Dl ((items kg).drop 4)) 36 [6,7] (AB 36 (up x (Ui pv port a n cap i))) M) ((.ret,[.int .u32 0, .int .i64 (-1)],M),[]):=⟨by kernel_rfl,by kernel_rfl⟩
theorem I7{lt:Bool}{rv:List Value}{sv:Value}{ve:Int}(f:FuncId)(v:Value)(args:List Value)(m:Mem)(hc:(dM lt rv sv ve).call f=some v)(hs:(dM lt rv sv ve).says f args m v):Sq f args m=some (v,(dM lt rv sv ve).eff f m):=hs.elim
theorem Gg{lt:Bool}{rv:List Value}{sv:Value}{ve:Int}(f:FuncId)(hc:(dM lt rv sv ve).call f=none)(a:List Value)(m:Mem):Sq f a m=none:=Cy (by rintro rfl;cases hc) a m
theorem I8{M M':Mem}(h:Ext M M'):∀j x,Bo M j=some x->Bo M' j=some x:=λj x hj=>by
 obtain⟨h1,h2⟩:=Fa hj
 unfold Bo
 rw[if_pos (Nat.lt_of_lt_of_le h1 h.size),h.get j h1,h2]
theorem dP(M:Mem)(rv:List Value):Ext M (Uh M rv):=Ext.fresh
theorem Sw(M:Mem)(rv:List Value):(Uh M rv).get M.size= .cells true rv:=Mem.get_set_same ..
theorem szR:Bv Tryz.prog 50=some 2:=by kernel_rfl
theorem kq{ta:Option Addr}{tn tc:Nat}{ve:Int}:H.stOk Tryz.prog (.cells true zR) 50 0 (.agg ⟨[.slice ta tn tc, .int .u32 ve]⟩) (.cells true [.slice ta tn tc, .int .u32 ve]):=λm b hg=>by
 rw[C4 (n:=2) szR rfl hg (by decide) rfl]
 rfl
noncomputable abbrev Kc(k:Nat):AF->Mem->Option (Ex×AF×Mem):=AJ Tryz.prog kp 1 Ug (AY Tryz.prog kp 1 Ug 36) 36 k Su
section
variable{M:Mem}{pv v:Value}{pk:List Int}{port:Int}{rb cap:Nat}{sp:Option Nat}{vr:List (Value×BB)}{rest:List Value}{own:Bool}{r:BB}
theorem kr(hS:Qn M pv pk)(hb:∀b∈pk,0<=b/\b<256)(hn:pk.length<=65535)(hp:0<=port/\port<4294967296)(hg:rb<M.size/\M.get rb= .cells own (vr.flatMap B7++rest))(hl:vr.length<=100){i:Nat}(hi:vr[i]?=some (v,r))
  (hv:CS (Bo M) v r.tests) (htl:r.tests.length<=100) (hm:∀t∈r.tests,Cq t=true/\C2 t) {kk:Nat} (hkk:101<=kk) (x:Nat->Value):
  ∃M' x',Ext M M'/\Kc kk (AB 36 (up x (Ui pv port (some ⟨rb,0,sp⟩) vr.length cap (i:Int)))) M=
   if r.tests.all (λt=>BN t pk port)=true then some (.ret,AB 36 (up x' [(6, .int .u32 r.verdict),(7, .int .i64 (i:Int))]),M')else some (.normal,AB 36 (up x' (Ui pv port (some ⟨rb,0,sp⟩) vr.length cap ((i+1:Nat):Int))),M'):=by
 have hlt:i<vr.length:=(List.getElem?_eq_some_iff.1 hi).1
 obtain⟨q1,q2⟩:=rL kk x pv port (some ⟨rb,0,sp⟩) vr.length cap (i:Int) M
 obtain⟨x1,h1⟩:=BR Hu rfl I7 Gg q1 q2 (AA (Jr hlt) AN)
 have hx1:Ext M (Uh M [v, .int .u32 r.verdict]):=dP _ _
 obtain⟨ta,tc,hvt,hloop⟩:=dL (M:=Uh M [v, .int .u32 r.verdict]) (rv:= .slice (some ⟨rb,0,sp⟩) vr.length cap) (tv9:= .pointer (some ⟨M.size,0,none⟩)) (i:=(i:Int)) (rn:=Int.ofNat vr.length) (i14:=(i:Int)) hb hn hp htl hm kk kk hkk (hS.ext hx1) ((show CS (Bo M) v r.tests from hv).mono (I8 hx1))
 rw[hvt]at hloop hx1
 obtain⟨q1,q2⟩:=vO kk x1 pv port rb sp vr.length cap (i:Int) ta r.tests.length tc r.verdict M
 have hld:H.ldOk (M.get rb) (Nat.add 0 (Nat.mul (i:Int).toNat 2)) true 2 (.agg ⟨[.slice ta r.tests.length tc, .int .u32 r.verdict]⟩):=by
  have:=OL (g:=B7) CK hi hg.2;rw[hvt]at this;exact this
 obtain⟨x2,h2⟩:=BR Hu rfl I7 Gg q1 q2 (AA (by omega) (AA hld (AA (by rw[Mem.get_push_same];exact kq) (AA (by rw[Sw];rfl) AN))))
 obtain⟨M3,x3,j',hx3,h3⟩:=hloop x2
 have hext:Ext M M3:=hx1.trans hx3
 have g3:M3.get M.size= .cells true [.slice ta r.tests.length tc, .int .u32 r.verdict]:=by
  have hlt:M.size< (Uh M [.slice ta r.tests.length tc, .int .u32 r.verdict]).size:=by
   show M.size<M.size+1;omega
  rw[hx3.get _ hlt,Sw]
 have hcut:Kc kk (AB 36 (up x (Ui pv port (some ⟨rb,0,sp⟩) vr.length cap (i:Int)))) M=AJ Tryz.prog kp 1 Ug (AY Tryz.prog kp 1 Ug 36) 36 kk (.seq (.block 1 nV) (.region 10 (Ue 10) false)) (AB 36 (up x1 (Ui pv port (some ⟨rb,0,sp⟩) vr.length cap (i:Int)))) M:=by
  rw[show Kc kk _ M=_ from HT 2 Su h1,vN];rfl
 by_cases hh:r.tests.all (λt=>BN t pk port)=true
 ·rw[if_pos hh]at h3;obtain⟨q1,q2⟩:=vP kk x3 pv (.slice (some ⟨rb,0,sp⟩) vr.length cap) port ta M.size r.tests.length tc j' (i:Int) (Int.ofNat vr.length) (i:Int) r.verdict M3;obtain⟨x4,h4⟩:=BR Hu rfl I7 Gg q1 q2 (AA (by rw[g3];rfl) AN);have hI:=(GG 2 nV nW h2 h3).trans h4;exact⟨M3,x4,hext,by rw[if_pos hh];exact hcut.trans (SX hI (by simp) (by simp))⟩
 ·rw[if_neg hh]at h3;have hI:=He 2 nV nW h2 h3 (by simp) (by simp);obtain⟨q1,q2⟩:=vQ kk x3 pv (.slice (some ⟨rb,0,sp⟩) vr.length cap) (.pointer (some ⟨M.size,0,none⟩)) port ta r.tests.length tc j' (i:Int) (Int.ofNat vr.length) (i:Int) M3;obtain⟨x4,h4⟩:=BR Hu rfl I7 Gg q1 q2 AN;rw[HX (by omega)]at h4;exact⟨M3,x4,hext,by rw[if_neg hh];exact hcut.trans ((j6 hI).trans h4)⟩
theorem Wy(hb:∀b∈pk,0<=b/\b<256)(hn:pk.length<=65535)(hp:0<=port/\port<4294967296)(hl:vr.length<=100)(hm:∀p∈vr,p.2.tests.length<=100/\∀t∈p.2.tests,Cq t=true/\C2 t){kk:Nat}(hkk:101<=kk):
  ∀(d i:Nat),vr.length=i+d->∀(jj:Nat) (M:Mem) (x:Nat->Value),d+1<=jj->Qn M pv pk->rb<M.size/\M.get rb= .cells own (vr.flatMap B7++rest)->(∀p∈vr,CS (Bo M) p.1 p.2.tests)->
  ∃M' x',Ext M M'/\((BM (Kc kk) jj (AB 36 (up x (Ui pv port (some ⟨rb,0,sp⟩) vr.length cap (i:Int)))) M=some (.ret,AB 36 (up x' [(6, .int .u32 (C5 pk port ((vr.map (·.2)).drop i))),(7, .int .i64 (Fc pk port ((vr.map (·.2)).drop i) i))]),M'))\/
   (BM (Kc kk) jj (AB 36 (up x (Ui pv port (some ⟨rb,0,sp⟩) vr.length cap (i:Int)))) M=some (.exit 0,AB 36 (up x' (Ui pv port (some ⟨rb,0,sp⟩) vr.length cap (vr.length:Int))),M')/\C5 pk port ((vr.map (·.2)).drop i)=0/\Fc pk port ((vr.map (·.2)).drop i) i= -1))
 |0,i,hi,jj,M,x,hjj,hS,hg,hv=>by
  obtain⟨jj,rfl⟩:∃j',jj=j'+1:=⟨jj - 1,by omega⟩;obtain rfl:i=vr.length:=by omega
  obtain⟨q1,q2⟩:=dO kk x pv port (some ⟨rb,0,sp⟩) vr.length cap (vr.length:Int) M;obtain⟨x1,h1⟩:=BR Hu rfl I7 Gg q1 q2 (AA (Hj (Nat.lt_irrefl _)) AN);refine⟨M,x1,Ext.refl _, .inr ⟨?_,?_,?_⟩⟩
  ·have h2:Kc kk _ M=_:=Dz 2 Su (by simp) h1;exact Bm h2 (by simp)
  ·rw[List.drop_eq_nil_of_le (by rw[List.length_map];exact Nat.le_refl _)];rfl
  ·rw[List.drop_eq_nil_of_le (by rw[List.length_map];exact Nat.le_refl _)];rfl
 |d+1,i,hi,jj,M,x,hjj,hS,hg,hv=>by
  obtain⟨jj,rfl⟩:∃j',jj=j'+1:=⟨jj - 1,by omega⟩;have hlt:i<vr.length:=by omega
  obtain⟨⟨v,r⟩,hr⟩:∃p,vr[i]?=some p:=⟨_,List.getElem?_eq_getElem hlt⟩;have hmem:=List.mem_of_getElem? hr;obtain⟨M1,x1,hx,h1⟩:=kr (cap:=cap) (sp:=sp) hS hb hn hp hg hl hr (hv _ hmem) (hm _ hmem).1 (hm _ hmem).2 hkk x;have hd:(vr.map (·.2)).drop i=r::(vr.map (·.2)).drop (i+1):=Kb (by rw[List.getElem?_map,hr];rfl);rw[hd,C5,Fc];by_cases hh:r.tests.all (λt=>BN t pk port)=true
  ·rw[if_pos hh]at h1;rw[if_pos hh,if_pos hh];exact⟨M1,x1,hx, .inl (Bm h1 (by simp))⟩
  ·rw[if_neg hh]at h1;rw[if_neg hh,if_neg hh];obtain⟨M2,x2,hx2,h2⟩:=Wy hb hn hp hl hm hkk d (i+1) (by omega) jj M1 x1 (by omega) (hS.ext hx) ⟨Nat.lt_of_lt_of_le hg.1 hx.size,(hx.get rb hg.1).trans hg.2⟩ (λp hp=>(hv p hp).mono (I8 hx));refine⟨M2,x2,hx.trans hx2,?_⟩;rcases h2 with h2|⟨h2,h3⟩
   ·exact .inl (CV h1 h2)
   ·exact .inr ⟨CV h1 h2,h3⟩
end
theorem rN{pv:Value}{port:Int}{a:Option Addr}{cap:Nat}{M:Mem}(kk jj:Nat)(x:Nat->Value):∃x',BM (Kc kk) (jj+1) (AB 36 (up x (Ui pv port a 0 cap 0))) M=some (.exit 0,AB 36 (up x' (Ui pv port a 0 cap 0)),M):=by
 obtain⟨q1,q2⟩:=dO kk x pv port a 0 cap 0 M
 obtain⟨x1,h1⟩:=BR Hu rfl I7 Gg q1 q2 (AA (Hj (i:=0) (n:=0) (Nat.lt_irrefl _)) AN)
 have h2:Kc kk _ M=_:=Dz 2 Su (by simp) h1
 exact⟨x1,Bm h2 (by simp)⟩
theorem zA:Tryz.prog.funcs[11]?=some Tryz.f11:=by kernel_rfl
theorem zB:Tryz.f11.body=some kg:=by kernel_rfl
theorem zC:Tryz.f11.ntmps=36:=by kernel_rfl
theorem vT(x:Nat->Value)(a b:Value)(M:Mem):DM Tryz.prog (AB 36 (up x [(6,a),(7,b)])) M Tryz.f11.results.toList=some [a,b]:=by kernel_rfl
def zD(rs:List BB):Prop:=rs.length<=100/\∀r∈rs,r.tests.length<=100/\∀t∈r.tests,Cq t=true/\C2 t
theorem dQ{M:Mem}{pv v:Value}{pk:List Int}{port:Int}{rs:List BB}(hS:Qn M pv pk)(hb:∀b∈pk,0<=b/\b<256)(hn:pk.length<=65535)(hp:0<=port/\port<4294967296)(hF:zD rs)(hv:DD (Bo M) v rs){kk:Nat}(hkk:101<=kk):
  ∃M',Ext M M'/\Co Tryz.prog kp 1 Ug kk 11 [v,pv, .int .u32 port] M=some (.tuple ⟨[.int .u32 (C5 pk port rs), .int .i64 (Fc pk port rs 0)]⟩,M'):=by
 obtain⟨a,cap,rfl,hv⟩:=hv
 obtain⟨q1,q2⟩:=vR kk pv port a rs.length cap M
 obtain⟨x1,h1⟩:=BR (x:=Bq [.slice a rs.length cap,pv, .int .u32 port]) Hu rfl I7 Gg q1 q2 AN
 have fin:∀{M':Mem} {x':Nat->Value} {A B:Value},AJ Tryz.prog kp 1 Ug (AY Tryz.prog kp 1 Ug 36) 36 kk kg (AB 36 (Bq [.slice a rs.length cap,pv, .int .u32 port])) M=some (.ret,AB 36 (up x' [(6,A),(7,B)]),M')->Co Tryz.prog kp 1 Ug kk 11 [.slice a rs.length cap,pv, .int .u32 port] M=some (.tuple ⟨[A,B]⟩,M'):=λh=>
  F9 zA zB (by rw[zC];rfl) h (vT ..)
 have ends:∀{M':Mem} {x2:Nat->Value} {i:Int},BM (Kc kk) kk (AB 36 (up x1 (Ui pv port a rs.length cap 0))) M=some (.exit 0,AB 36 (up x2 (Ui pv port a rs.length cap i)),M')->Co Tryz.prog kp 1 Ug kk 11 [.slice a rs.length cap,pv, .int .u32 port] M=some (.tuple ⟨[.int .u32 0, .int .i64 (-1)]⟩,M'):=λ{M' x2 i} h=>by
  obtain⟨q1,q2⟩:=vS kk x2 pv port a rs.length cap i M';obtain⟨x3,h3⟩:=BR Hu rfl I7 Gg q1 q2 AN;exact fin ((GG 3 kg dN h1 h).trans h3)
 by_cases e:rs= []
 ·subst e;obtain⟨kk,rfl⟩:∃k',kk=k'+1:=⟨kk - 1,by omega⟩;obtain⟨x2,h2⟩:=rN (pv:=pv) (port:=port) (a:=a) (cap:=cap) (M:=M) (kk+1) kk x1;exact⟨M,Ext.refl _,ends h2⟩
 ·obtain⟨b,sp,own,rest,vr,rfl,hm,hk,hts⟩:=hv e;have hk:=Fa hk;have hlen:rs.length=vr.length:=by rw[←hm,List.length_map]
  have hF2:∀p∈vr,p.2.tests.length<=100/\∀t∈p.2.tests,Cq t=true/\C2 t:=λp hp=>hF.2 _ (by rw[←hm];exact List.mem_map.2 ⟨p,hp,rfl⟩);obtain⟨M',x2,hx,h2⟩:=Wy (cap:=cap) (sp:=sp) hb hn hp (by rw[←hlen];exact hF.1) hF2 hkk vr.length 0 (by omega) kk M x1 (by have:=hF.1;omega) hS hk hts;rw[List.drop_zero,hm,←hlen]at h2;rcases h2 with h2|⟨h2,h3,h4⟩
  ·exact⟨M',hx,fin (He 3 kg dN h1 h2 (by simp) (by simp))⟩
  ·rw[h3,h4];exact⟨M',hx,ends h2⟩
noncomputable def XI:Code:=AP Tryz.f32
noncomputable def vc:Code:=match(items XI)[10]? with|some c=>c|none=> .skip
noncomputable def dj:Code:=match vc with| .block _ (.loop c)=>c|_=> .skip
theorem dk:(items XI).drop 10= .block 0 (.loop dj)::(items XI).drop 11:=by kernel_rfl
noncomputable def Yl(lt ge le14:Bool)(B kind pos size mask:Int):H.Hint where
 ix t:=Nat.beq t 23
 ld _ t off:=cond (Nat.beq t 5) (some (.int .u8 B)) (cond (Nat.beq t 3) (cond (Nat.beq off 1) (some (.int .i64 kind)) (cond (Nat.beq off 2) (some (.int .i64 pos)) (some (.int .i64 size)))) (cond (Nat.beq t 38) (some (.int .u64 mask)) none))
 cmp op t:=cond (Nat.beq t 3) (BinOp.rec (motive:=λ_=>Option Bool) none none none none none none none none none none none none none (some lt) (some le14) none (some ge) op) none
 ap _:=none
 call _:=none
 spec _ _ _ _:=False
 blk:=0
noncomputable def mA(M:Mem)(tv:List Value):Mem:=M.push (.cells true tv)
noncomputable def ZJ(z:Nat)(M:Mem)(kind:Int):Prop:=H.ldOk (M.get z) (Nat.add 0 1) false 1 (.int .i64 kind)
noncomputable def vd:List Nat:= [1,3,8,9,10]
noncomputable def MA(pv:Value)(z:Nat)(at_ n i:Int):List (Nat×Value):=vd.zip [pv, .pointer (some ⟨z,0,none⟩), .int .i64 at_, .int .u64 n, .int .i64 i]
section
variable(k:Nat)(x:Nat->Value)(neg:Bool)(kind pos size mask lo hi port B at_ n i:Int)(a:Option Addr)(np cap z:Nat)(M:Mem)
theorem sE:
  Rn (Hy (Yl true true true 0 1 0 0 0) Tryz.prog kp k XI 65 [6,7] (AB 65 (Bq [.agg ⟨AK neg 1 pos size mask lo hi⟩, .slice a np cap, .int .u32 port])) M) ((.ret,[.int .u64 (IntKind.wrap .u64 (Int.ofNat np)), .bool true],mA M (AK neg 1 pos size mask lo hi)),[ZJ M.size (mA M (AK neg 1 pos size mask lo hi)) 1]):=⟨by kernel_rfl,by kernel_rfl⟩
theorem sG:
  Rn (Hy (Yl true true true 0 2 0 0 0) Tryz.prog kp k XI 65 [6,7] (AB 65 (Bq [.agg ⟨AK neg 2 pos size mask lo hi⟩, .slice a np cap, .int .u32 port])) M) ((.ret,[.int .u64 (IntKind.wrap .u64 port), .bool true],mA M (AK neg 2 pos size mask lo hi)),[ZJ M.size (mA M (AK neg 2 pos size mask lo hi)) 2,ZJ M.size (mA M (AK neg 2 pos size mask lo hi)) 2]):=⟨by kernel_rfl,by kernel_rfl⟩
theorem sH:
  Rn (Hy (Yl true true true 0 3 pos 0 0) Tryz.prog kp k (Dl ((items XI).take 10)) 65 vd (AB 65 (Bq [.agg ⟨AK neg 3 pos size mask lo hi⟩, .slice a np cap, .int .u32 port])) M) ((.normal,[.slice a np cap, .pointer (some ⟨M.size,0,none⟩), .int .i64 pos, .int .u64 0, .int .i64 0],mA M (AK neg 3 pos size mask lo hi)),
    [ZJ M.size (mA M (AK neg 3 pos size mask lo hi)) 3,ZJ M.size (mA M (AK neg 3 pos size mask lo hi)) 3,H.ldOk ((mA M (AK neg 3 pos size mask lo hi)).get M.size) (Nat.add 0 2) false 1 (.int .i64 pos),ZJ M.size (mA M (AK neg 3 pos size mask lo hi)) 3]):=⟨by kernel_rfl,by kernel_rfl⟩
theorem lH:
  Rn (Hy (Yl true true true 0 4 pos 0 0) Tryz.prog kp k (Dl ((items XI).take 10)) 65 [6,7] (AB 65 (Bq [.agg ⟨AK neg 4 pos size mask lo hi⟩, .slice a np cap, .int .u32 port])) M) ((.ret,[.int .u64 0, .bool false],mA M (AK neg 4 pos size mask lo hi)),
    [ZJ M.size (mA M (AK neg 4 pos size mask lo hi)) 4,ZJ M.size (mA M (AK neg 4 pos size mask lo hi)) 4,H.ldOk ((mA M (AK neg 4 pos size mask lo hi)).get M.size) (Nat.add 0 2) false 1 (.int .i64 pos),ZJ M.size (mA M (AK neg 4 pos size mask lo hi)) 4,BY Tryz.prog kp .leq 3 (.int .i64 (Int.ofNat np)) (.int .i64 14)=some (.bool true)]):=⟨by kernel_rfl,by kernel_rfl⟩
noncomputable def sJ(pos B:Int):Int:=IntKind.wrap .i64 (Int.add (IntKind.wrap .i64 (Int.add pos 14)) (IntKind.wrap .i64 (Int.mul 4 (IntKind.wrap .i64 (Int.tmod B 16)))))
theorem sK(pb:Nat)(sp:Option Nat):
  Rn (Hy (Yl true true false B 4 pos 0 0) Tryz.prog kp k (Dl ((items XI).take 10)) 65 vd (AB 65 (Bq [.agg ⟨AK neg 4 pos size mask lo hi⟩, .slice (some ⟨pb,0,sp⟩) np cap, .int .u32 port])) M) ((.normal,[.slice (some ⟨pb,0,sp⟩) np cap, .pointer (some ⟨M.size,0,none⟩), .int .i64 (sJ pos B), .int .u64 0, .int .i64 0],mA M (AK neg 4 pos size mask lo hi)),
    [ZJ M.size (mA M (AK neg 4 pos size mask lo hi)) 4,ZJ M.size (mA M (AK neg 4 pos size mask lo hi)) 4,H.ldOk ((mA M (AK neg 4 pos size mask lo hi)).get M.size) (Nat.add 0 2) false 1 (.int .i64 pos),ZJ M.size (mA M (AK neg 4 pos size mask lo hi)) 4,BY Tryz.prog kp .leq 3 (.int .i64 (Int.ofNat np)) (.int .i64 14)=some (.bool false),(0<=(14:Int)/\(14:Int)< (np:Int)),H.ldOk ((mA M (AK neg 4 pos size mask lo hi)).get pb) (Nat.add 0 (Nat.mul 14 1)) false 1 (.int .u8 B)]):=⟨by kernel_rfl,by kernel_rfl⟩
noncomputable def wV(z:Nat)(M:Mem)(size:Int):Prop:=H.ldOk (M.get z) (Nat.add 0 3) false 1 (.int .i64 size)
theorem vf:
  Rn (Hy (Yl false true false 0 0 0 size 0) Tryz.prog kp k dj 65 vd (AB 65 (up x (MA (.slice a np cap) z at_ n i))) M) ((.exit 0,[.slice a np cap, .pointer (some ⟨z,0,none⟩), .int .i64 at_, .int .u64 n, .int .i64 i],M),[wV z M size,BY Tryz.prog kp .lss 3 (.int .i64 i) (.int .i64 size)=some (.bool false)]):=⟨by kernel_rfl,by kernel_rfl⟩
noncomputable def tW(at_ i:Int)(np:Nat)(b:Bool):Prop:=BY Tryz.prog kp .geq 3 (.int .i64 (IntKind.wrap .i64 (Int.add at_ i))) (.int .i64 (Int.ofNat np))=some (.bool b)
theorem vg:
  Rn (Hy (Yl true true false 0 0 0 size 0) Tryz.prog kp k dj 65 [6,7] (AB 65 (up x (MA (.slice a np cap) z at_ n i))) M) ((.ret,[.int .u64 0, .bool false],M),[wV z M size,BY Tryz.prog kp .lss 3 (.int .i64 i) (.int .i64 size)=some (.bool true),tW at_ i np true]):=⟨by kernel_rfl,by kernel_rfl⟩
theorem vh(pb:Nat)(sp:Option Nat):
  Rn (Hy (Yl true false false B 0 0 size 0) Tryz.prog kp k dj 65 vd (AB 65 (up x (MA (.slice (some ⟨pb,0,sp⟩) np cap) z at_ n i))) M) ((.normal,[.slice (some ⟨pb,0,sp⟩) np cap, .pointer (some ⟨z,0,none⟩), .int .i64 at_, .int .u64 (IntKind.wrap .u64 (Int.add (IntKind.wrap .u64 (Int.mul 256 n)) (IntKind.wrap .u64 B))), .int .i64 (IntKind.wrap .i64 (Int.add i 1))],M),
    [wV z M size,BY Tryz.prog kp .lss 3 (.int .i64 i) (.int .i64 size)=some (.bool true),tW at_ i np false,(0<=IntKind.wrap .i64 (Int.add at_ i)/\IntKind.wrap .i64 (Int.add at_ i)< (np:Int)),H.ldOk (M.get pb) (Nat.add 0 (Nat.mul (IntKind.wrap .i64 (Int.add at_ i)).toNat 1)) false 1 (.int .u8 B)]):=⟨by kernel_rfl,by kernel_rfl⟩
theorem vi:
  Rn (Hy (Yl true false false 0 0 0 0 mask) Tryz.prog kp k (Dl ((items XI).drop 11)) 65 [6,7] (AB 65 (up x (MA (.slice a np cap) z at_ n i))) M) ((.ret,[.int .u64 (MP n mask), .bool true],M),[H.ldOk (M.get z) (Nat.add 0 4) false 1 (.int .u64 mask)]):=⟨by kernel_rfl,by kernel_rfl⟩
end
theorem Kh:Gr 65:=by
 intro x d v hd
 refine⟨up x [(d,v)],?_⟩
 iterate 65 (rcases d with _|d;· kernel_rfl)
 omega
theorem Hm{lt ge le14:Bool}{B kind pos size mask:Int}(f:FuncId)(v:Value)(args:List Value)(m:Mem)(hc:(Yl lt ge le14 B kind pos size mask).call f=some v)(hs:(Yl lt ge le14 B kind pos size mask).says f args m v):Fm f args m=some (v,(Yl lt ge le14 B kind pos size mask).eff f m):=hs.elim
theorem Fw{lt ge le14:Bool}{B kind pos size mask:Int}(f:FuncId)(hc:(Yl lt ge le14 B kind pos size mask).call f=none)(a:List Value)(m:Mem):Fm f a m=none:=rfl
theorem Ym{n b:Int}(h:0<=n/\n<72057594037927936)(hb:0<=b/\b<256):IntKind.wrap .u64 (Int.add (IntKind.wrap .u64 (Int.mul 256 n)) (IntKind.wrap .u64 b))=256*n+b:=by
 have e1:IntKind.wrap .u64 (Int.mul 256 n)=256*n:=IntWalk.u64_in _ (by show 0<=256*n/\256*n<=18446744073709551615;omega)
 have e2:IntKind.wrap .u64 b=b:=IntWalk.u64_in _ (by omega)
 rw[e1,e2]
 exact IntWalk.u64_in _ (by show 0<=256*n+b/\256*n+b<=18446744073709551615;omega)
theorem Qu{a i:Nat}(h:a+i<=1000000):IntKind.wrap .i64 (Int.add (a:Int) (i:Int))=((a+i:Nat):Int):=by
 show IntKind.wrap .i64 ((a:Int)+(i:Int))=_
 rw[wrap_i64 ⟨by omega,by omega⟩];omega
theorem vj{a i np:Nat}(h:a+i<=1000000)(hge:np<=a+i):tW (a:Int) (i:Int) np true:=by
 unfold tW;rw[Qu h];simp[BY,BX,B1];omega
theorem sL{a i np:Nat}(h:a+i<=1000000)(hge:a+i<np):tW (a:Int) (i:Int) np false:=by
 unfold tW;rw[Qu h];simp[BY,BX,B1];omega
noncomputable abbrev nZ(k:Nat):AF->Mem->Option (Ex×AF×Mem):=AJ Tryz.prog kp 1 Hs (AY Tryz.prog kp 1 Hs 65) 65 k dj
def lI(M:Mem)(ap:Option Addr)(pk:List Int):Prop:=pk≠ []->∃pb sp own,ap=some ⟨pb,0,sp⟩/\pb<M.size/\M.get pb= .cells own (AH pk)
theorem ID.as{M:Mem}{pv:Value}{pk:List Int}(h:ID M pv pk):∃ap cap,pv= .slice ap pk.length cap/\lI M ap pk:=by
 rcases h with⟨rfl,rfl⟩|⟨k,sp,cap,own,rfl,h1,h2,h3,h4,h5⟩
 ·exact⟨none,0,rfl,λh=>absurd rfl h⟩
 ·exact⟨_,cap,rfl,λ_=>⟨k,sp,own,rfl,h3,h5⟩⟩
theorem XJ{pk:List Int}{B:BH}{own:Bool}{j:Nat}{b:Int}(h:B= .cells own (AH pk))(hj:pk[j]?=some b):H.ldOk B (Nat.add 0 (Nat.mul j 1)) false 1 (.int .u8 b):=by
 subst h
 show(AH pk)[Nat.add 0 (Nat.mul j 1)]?=_
 have e:Nat.add 0 (Nat.mul j 1)=j:=by show 0+j*1=j;omega
 rw[e]
 unfold AH
 rw[List.getElem?_map,hj]
 rfl
theorem dm{n m:Nat}(h:n<=m):(256:Int) ^ n<=256 ^ m:=by
 have h1:=Nat.pow_le_pow_right (show 0<256 by decide) h
 have h3:((256 ^ n:Nat):Int)<=((256 ^ m:Nat):Int):=Int.ofNat_le.2 h1
 rw[Int.natCast_pow,Int.natCast_pow]at h3
 exact h3
theorem Yn{pk:List Int}{a i:Nat}(hb:∀b∈pk,0<=b/\b<256)(hi:i<=7):0<=FT (cut pk a i)/\FT (cut pk a i)<72057594037927936:=by
 have h:=Ie (cut pk a i) λx hx=>hb x (List.mem_of_mem_drop (List.mem_of_mem_take hx))
 refine⟨h.1,Int.lt_of_lt_of_le h.2 ?_⟩
 have hl:(cut pk a i).length<=7:=by
  unfold cut;rw[List.length_take];omega
 exact Int.le_trans (dm hl) (by decide)
section
variable{M:Mem}{ap:Option Addr}{pk:List Int}{cap zb a z:Nat}
theorem XK(hb:∀b∈pk,0<=b/\b<256)(hn:pk.length<=65535)(hpk:lI M ap pk)(ha:a<=1000)(hz:z<=8)(hsz:wV zb M (z:Int))(kk:Nat):
  ∀(d i:Nat),z=i+d->∀(jj:Nat) (x:Nat->Value),d+1<=jj->(a+i<=pk.length\/i=0)->
  (a+z<=pk.length/\∃x',BM (nZ kk) jj (AB 65 (up x (MA (.slice ap pk.length cap) zb (a:Int) (FT (cut pk a i)) (i:Int)))) M=some (.exit 0,AB 65 (up x' (MA (.slice ap pk.length cap) zb (a:Int) (FT (cut pk a z)) (z:Int))),M))\/
  (¬a+z<=pk.length/\∃x',BM (nZ kk) jj (AB 65 (up x (MA (.slice ap pk.length cap) zb (a:Int) (FT (cut pk a i)) (i:Int)))) M=some (.ret,AB 65 (up x' [(6, .int .u64 0),(7, .bool false)]),M))\/(z=0)
 |0,i,hi,jj,x,hjj,hinv=>by
  obtain⟨jj,rfl⟩:∃j',jj=j'+1:=⟨jj - 1,by omega⟩;obtain rfl:z=i:=by omega
  by_cases h0:z=0
  ·exact .inr (.inr h0)
  refine .inl ⟨by omega,?_⟩;obtain⟨q1,q2⟩:=vf kk x (z:Int) (a:Int) (FT (cut pk a z)) (z:Int) ap pk.length cap zb M;obtain⟨x1,h1⟩:=BR Kh rfl Hm Fw q1 q2 (AA hsz (AA (Hj (Nat.lt_irrefl z)) AN));exact⟨x1,Bm h1 (by simp)⟩
 |d+1,i,hi,jj,x,hjj,hinv=>by
  obtain⟨jj,rfl⟩:∃j',jj=j'+1:=⟨jj - 1,by omega⟩;by_cases hlt:a+i<pk.length
  ·obtain⟨b,hbv⟩:∃b,pk[a+i]?=some b:=⟨_,List.getElem?_eq_getElem hlt⟩;obtain⟨pb,sp,own,hap,hpb,gpb⟩:=hpk (by intro h;rw[h]at hlt;simp at hlt);have hbr:=hb b (List.mem_of_getElem? hbv);obtain⟨q1,q2⟩:=vh kk x (z:Int) b (a:Int) (FT (cut pk a i)) (i:Int) pk.length cap zb M pb sp;have ead:=Qu (a:=a) (i:=i) (by omega);obtain⟨x1,h1⟩:=BR Kh rfl Hm Fw q1 q2 (AA hsz (AA (Jr (i:=i) (n:=z) (by omega)) (AA (sL (by omega) hlt) (AA (by rw[ead];omega) (AA (by rw[ead];exact XJ gpb hbv) AN)))));have hcb:=Yn (a:=a) (i:=i) hb (by omega)
   have ecut:IntKind.wrap .u64 (Int.add (IntKind.wrap .u64 (Int.mul 256 (FT (cut pk a i)))) (IntKind.wrap .u64 b))=FT (cut pk a (i+1)):=by
    rw[Ym hcb hbr];unfold cut;rw[ZM (b:=b) (by rw[List.getElem?_drop];exact hbv)]
   rw[ecut,HX (by omega),←hap]at h1;rcases XK hb hn hpk ha hz hsz kk d (i+1) (by omega) jj x1 (by omega) (.inl (by omega))with⟨g,x2,h2⟩|⟨g,x2,h2⟩|h2
   ·exact .inl ⟨g,x2,CV h1 h2⟩
   ·exact .inr (.inl ⟨g,x2,CV h1 h2⟩)
   ·omega
  ·refine .inr (.inl ⟨by omega,?_⟩);obtain⟨q1,q2⟩:=vg kk x (z:Int) (a:Int) (FT (cut pk a i)) (i:Int) ap pk.length cap zb M;obtain⟨x1,h1⟩:=BR Kh rfl Hm Fw q1 q2 (AA hsz (AA (Jr (i:=i) (n:=z) (by omega)) (AA (vj (by omega) (by omega)) AN)));exact⟨x1,Bm h1 (by simp)⟩
end
theorem Sz:Tryz.prog.funcs[32]?=some Tryz.f32:=by kernel_rfl
theorem dp:Tryz.f32.body=some XI:=by kernel_rfl
theorem lJ:Tryz.f32.ntmps=65:=by kernel_rfl
theorem TA(x:Nat->Value)(a b:Value)(M:Mem):DM Tryz.prog (AB 65 (up x [(6,a),(7,b)])) M Tryz.f32.results.toList=some [a,b]:=by kernel_rfl
theorem AG{M:Mem}{c:List Value}{j:Nat}{v:Value}(h:c[j]?=some v):H.ldOk ((mA M c).get M.size) (Nat.add 0 j) false 1 v:=by
 unfold mA
 rw[Mem.get_push_same]
 show c[Nat.add 0 j]?=_
 rw[show Nat.add 0 j=j from Nat.zero_add j]
 exact h
theorem lK{b:Int}{pos:Nat}(h:0<=b/\b<256)(hp:pos<=255):sJ (pos:Int) b=((14+4*(b % 16).toNat+pos:Nat):Int):=by
 unfold sJ
 have e0:Int.tmod b 16=b % 16:=Int.tmod_eq_emod_of_nonneg h.1
 rw[e0]
 have nQ:0<=b % 16/\b % 16<16:=by omega
 have e1:IntKind.wrap .i64 (b % 16)=b % 16:=wrap_i64 ⟨by omega,by omega⟩
 have e2:IntKind.wrap .i64 (Int.mul 4 (b % 16))=4*(b % 16):=wrap_i64 (x:=4*(b % 16)) ⟨by omega,by omega⟩
 have e3:IntKind.wrap .i64 (Int.add (pos:Int) 14)=pos+14:=wrap_i64 (x:=(pos:Int)+14) ⟨by omega,by omega⟩
 have e4:IntKind.wrap .i64 (Int.add ((pos:Int)+14) (4*(b % 16)))=pos+14+4*(b % 16):=wrap_i64 (x:=(pos:Int)+14+4*(b % 16)) ⟨by omega,by omega⟩
 rw[e1,e2,e3,e4]
 omega
theorem dq{M:Mem}{ap:Option Addr}{pk:List Int}{cap a z:Nat}{args:List Value}{neg:Bool}{kind pos mask lo hi:Int}{x1:Nat->Value}(hl:args.length=3)(hb:∀b∈pk,0<=b/\b<256)(hn:pk.length<=65535)(hpk:lI M ap pk)(ha:a<=1000)(hz:z<=8)(hz0:0<z)(hmask:u64 mask)
  (h1:AJ Tryz.prog kp 1 Hs (AY Tryz.prog kp 1 Hs 65) 65 600 (Dl ((items XI).take 10)) (AB 65 (Bq args)) M=some (.normal,AB 65 (up x1 (MA (.slice ap pk.length cap) M.size (a:Int) 0 0)),mA M (AK neg kind pos (z:Int) mask lo hi))):
  Co Tryz.prog kp 1 Hs 600 32 args M=some (if a+z<=pk.length then .tuple ⟨[.int .u64 (Cz (FT (cut pk a z)) mask), .bool true]⟩else .tuple ⟨[.int .u64 0, .bool false]⟩,mA M (AK neg kind pos (z:Int) mask lo hi)):=by
 have hx:Ext M (mA M (AK neg kind pos (z:Int) mask lo hi)):=Ext.push _ _
 have hpk':lI (mA M (AK neg kind pos (z:Int) mask lo hi)) ap pk:=λh=>by
  obtain⟨pb,sp,own,q1,q2,q3⟩:=hpk h;exact⟨pb,sp,own,q1,Nat.lt_of_lt_of_le q2 hx.size,(hx.get pb q2).trans q3⟩
 have hnn:max args.length Tryz.f32.ntmps=65:=by rw[hl,lJ];rfl
 have hcut0:FT (cut pk a 0)=0:=by unfold cut;rw[List.take_zero];rfl
 rcases XK (cap:=cap) hb hn hpk' ha hz (AG (M:=M) (c:=AK neg kind pos (z:Int) mask lo hi) (j:=3) rfl) 600 z 0 (by omega) 600 x1 (by omega) (.inr rfl)with⟨g,x2,h2⟩|⟨g,x2,h2⟩|h2
 ·rw[hcut0]at h2;rw[if_pos g];obtain⟨q1,q2⟩:=vi 600 x2 mask (a:Int) (FT (cut pk a z)) (z:Int) ap pk.length cap M.size (mA M (AK neg kind pos (z:Int) mask lo hi));obtain⟨x3,h3⟩:=BR Kh rfl Hm Fw q1 q2 (AA (AG (M:=M) (c:=AK neg kind pos (z:Int) mask lo hi) (j:=4) rfl) AN);have hbn:=Ie (cut pk a z) λx hx=>hb x (List.mem_of_mem_drop (List.mem_of_mem_take hx));have hcl:(cut pk a z).length<=8:=by unfold cut;rw[List.length_take];omega
  have hle:(256:Int) ^ (cut pk a z).length<=256 ^ 8:=dm hcl;have hu:u64 (FT (cut pk a z)):=⟨hbn.1,Int.lt_of_lt_of_le hbn.2 hle⟩;rw[Qk hu hmask]at h3;exact F9 Sz dp hnn ((GG 10 XI dk h1 h2).trans h3) (TA ..)
 ·rw[hcut0]at h2;rw[if_neg g];exact F9 Sz dp hnn (He 10 XI dk h1 h2 (by simp) (by simp)) (TA ..)
 ·omega
theorem Yo{M:Mem}{t:A8}{pk:List Int}{pv:Value}{port:Int}(hm:Cq t=true)(hr:C2 t)(hb:∀b∈pk,0<=b/\b<256)(hn:pk.length<=65535)(hpk:ID M pv pk)(hp:0<=port/\port<4294967296):
  Co Tryz.prog kp 1 Hs 600 32 [.agg ⟨AQ t⟩,pv, .int .u32 port] M=some (match Cs t pk port with|some n=> .tuple ⟨[.int .u64 n, .bool true]⟩|none=> .tuple ⟨[.int .u64 0, .bool false]⟩,mA M (AQ t)):=by
 have hk:=La hm
 have hmask:=hr.mask
 obtain⟨ap,cap,rfl,hpa⟩:=hpk.as
 obtain⟨neg,kind,pos,size,mask,lo,hi⟩:=t
 have etc:AQ ⟨neg,kind,pos,size,mask,lo,hi⟩=AK neg kind pos size mask lo hi:=rfl
 rw[etc]
 simp only at hk hmask
 rcases hk with(rfl|rfl)|⟨hk,hz,hp0,hp1⟩
 ·obtain⟨q1,q2⟩:=sE 600 neg pos size mask lo hi port ap pk.length cap M;obtain⟨x1,h1⟩:=BR (x:=Bq [.agg ⟨AK neg 1 pos size mask lo hi⟩, .slice ap pk.length cap, .int .u32 port]) Kh rfl Hm Fw q1 q2 (AA (AG (j:=1) rfl) AN);rw[dC (by omega)]at h1;exact F9 Sz dp (by rw[lJ];rfl) h1 (TA ..)
 ·obtain⟨q1,q2⟩:=sG 600 neg pos size mask lo hi port ap pk.length cap M;obtain⟨x1,h1⟩:=BR (x:=Bq [.agg ⟨AK neg 2 pos size mask lo hi⟩, .slice ap pk.length cap, .int .u32 port]) Kh rfl Hm Fw q1 q2 (AA (AG (j:=1) rfl) (AA (AG (j:=1) rfl) AN));rw[show IntKind.wrap .u64 port=port from IntWalk.u64_in _ (by omega)]at h1;exact F9 Sz dp (by rw[lJ];rfl) h1 (TA ..)
 ·obtain⟨z,rfl⟩:=Int.eq_ofNat_of_zero_le (show 0<=size by omega);obtain⟨p,rfl⟩:=Int.eq_ofNat_of_zero_le hp0;rcases hk with rfl|rfl
  ·obtain⟨q1,q2⟩:=sH 600 neg (p:Int) (z:Int) mask lo hi port ap pk.length cap M;obtain⟨x1,h1⟩:=BR (x:=Bq [.agg ⟨AK neg 3 (p:Int) (z:Int) mask lo hi⟩, .slice ap pk.length cap, .int .u32 port]) Kh rfl Hm Fw q1 q2 (AA (AG (j:=1) rfl) (AA (AG (j:=1) rfl) (AA (AG (j:=2) rfl) (AA (AG (j:=1) rfl) AN))));rw[dq rfl hb hn hpa (a:=p) (by omega) (by omega) (by omega) hmask h1];by_cases hle:p+z<=pk.length
   ·simp[Cs,hle]
   ·simp[Cs,hle]
  ·by_cases h14:pk.length<=14
   ·obtain⟨q1,q2⟩:=lH 600 neg (p:Int) (z:Int) mask lo hi port ap pk.length cap M;obtain⟨x1,h1⟩:=BR (x:=Bq [.agg ⟨AK neg 4 (p:Int) (z:Int) mask lo hi⟩, .slice ap pk.length cap, .int .u32 port]) Kh rfl Hm Fw q1 q2 (AA (AG (j:=1) rfl) (AA (AG (j:=1) rfl) (AA (AG (j:=2) rfl) (AA (AG (j:=1) rfl) (AA (by simp[BY,BX,B1];omega) AN)))));have h2:=Dz 10 XI (by simp) h1;rw[F9 Sz dp (by rw[lJ];rfl) h2 (TA ..)];have:¬15<=pk.length:=by omega
    simp[Cs,this];rfl
   ·obtain⟨b,hbv⟩:∃b,pk[14]?=some b:=⟨_,List.getElem?_eq_getElem (by omega)⟩;have hbr:=hb b (List.mem_of_getElem? hbv);obtain⟨pb,sp,own,rfl,hpb,gpb⟩:=hpa (by rintro rfl;simp at h14);have hx:Ext M (mA M (AK neg 4 (p:Int) (z:Int) mask lo hi)):=Ext.push _ _;obtain⟨q1,q2⟩:=sK 600 neg (p:Int) (z:Int) mask lo hi port b pk.length cap M pb sp;obtain⟨x1,h1⟩:=BR (x:=Bq [.agg ⟨AK neg 4 (p:Int) (z:Int) mask lo hi⟩, .slice (some ⟨pb,0,sp⟩) pk.length cap, .int .u32 port]) Kh rfl Hm Fw q1 q2 (AA (AG (j:=1) rfl) (AA (AG (j:=1) rfl) (AA (AG (j:=2) rfl) (AA (AG (j:=1) rfl) (AA (by simp[BY,BX,B1];omega) (AA (by omega) (AA (XJ ((hx.get pb hpb).trans gpb) hbv) AN)))))));rw[lK hbr (by omega)]at h1;rw[dq rfl hb hn hpa (a:=14+4*(b % 16).toNat+p) (by omega) (by omega) (by omega) hmask h1];have hget:pk.getD 14 0=b:=by rw[List.getD_eq_getElem?_getD,hbv];rfl
    have h15:15<=pk.length:=by omega
    by_cases hle:14+4*(b % 16).toNat+p+z<=pk.length
    ·simp only[Cs,hget];rw[if_pos hle];simp[h15,hle]
    ·simp only[Cs,hget];rw[if_neg hle];simp[h15,hle]
noncomputable def tY(kind pos size mask lo hi:Int):H.Hint where
 ix _:=false
 ld _ t off:=cond (Nat.beq t 3) (cond (Nat.beq off 1) (some (.int .i64 kind)) (cond (Nat.beq off 2) (some (.int .i64 pos)) (some (.int .i64 size)))) (cond (Nat.beq t 38) (cond (Nat.beq off 4) (some (.int .u64 mask)) (cond (Nat.beq off 5) (some (.int .u64 lo)) (some (.int .u64 hi)))) none)
 cmp op t:=cond (Nat.beq t 3) (BinOp.rec (motive:=λ_=>Option Bool) none none none none none none none none none none none none none none (some true) none (some true) op) none
 ap _:=none
 call _:=none
 spec _ _ _ _:=False
 blk:=0
 cmpO op t a:=cond (Nat.beq t 38) (BinOp.rec (motive:=λ_=>Option Bool) none none none none none none none none none none none none none (some true) (some true) (match a with| .tmp 6=>some false|_=>some true) none op) none
noncomputable def OR(kind pos size mask lo hi:Int)(neg:Bool)(M:Mem):Option (H.TT (Value×Mem)):=
 H.callT (tY kind pos size mask lo hi) Tryz.prog kp 1 20 31 [.agg ⟨AK neg kind pos size mask lo hi⟩] M λv m=>some ((v,m),[],[])
noncomputable def fA(j:Nat)(M:Mem)(v:Value):Prop:=H.ldOk (M.get j) 0 false 1 v
noncomputable def b3(j:Nat)(v:Int)(M:Mem)(c:List Value):Prop:=H.ldOk ((mA M c).get M.size) (Nat.add 0 j) false 1 (.int .i64 v)
noncomputable def ET(j:Nat)(v:Int)(M:Mem)(c:List Value):Prop:=H.ldOk ((mA M c).get M.size) (Nat.add 0 j) false 1 (.int .u64 v)
noncomputable def G2(a b:Int)(r:Bool):Prop:=BY Tryz.prog kp .gtr 38 (.int .u64 a) (.int .u64 b)=some (.bool r)
noncomputable def lL(a b:Int)(r:Bool):Prop:=BY Tryz.prog kp .lss 38 (.int .u64 a) (.int .u64 b)=some (.bool r)
noncomputable def Oc(a b:Int)(r:Bool):Prop:=BY Tryz.prog kp .geq 3 (.int .i64 a) (.int .i64 b)=some (.bool r)
noncomputable def fO(a b:Int)(r:Bool):Prop:=BY Tryz.prog kp .leq 3 (.int .i64 a) (.int .i64 b)=some (.bool r)
theorem vk(lo hi:Int)(neg:Bool)(M:Mem):Rn (OR 1 0 0 0 lo hi neg M) ((.bool true,mA M (AK neg 1 0 0 0 lo hi)),[ET 5 lo M (AK neg 1 0 0 0 lo hi),ET 6 hi M (AK neg 1 0 0 0 lo hi),G2 lo hi false,b3 1 1 M (AK neg 1 0 0 0 lo hi),b3 2 0 M (AK neg 1 0 0 0 lo hi),b3 3 0 M (AK neg 1 0 0 0 lo hi),ET 4 0 M (AK neg 1 0 0 0 lo hi),ET 6 hi M (AK neg 1 0 0 0 lo hi),lL hi 4294967296 true]):=⟨by kernel_rfl,by kernel_rfl⟩
theorem vl(lo hi:Int)(neg:Bool)(M:Mem):Rn (OR 2 0 0 0 lo hi neg M) ((.bool true,mA M (AK neg 2 0 0 0 lo hi)),[ET 5 lo M (AK neg 2 0 0 0 lo hi),ET 6 hi M (AK neg 2 0 0 0 lo hi),G2 lo hi false,b3 1 2 M (AK neg 2 0 0 0 lo hi),b3 1 2 M (AK neg 2 0 0 0 lo hi),b3 2 0 M (AK neg 2 0 0 0 lo hi),b3 3 0 M (AK neg 2 0 0 0 lo hi),ET 4 0 M (AK neg 2 0 0 0 lo hi),ET 6 hi M (AK neg 2 0 0 0 lo hi),lL hi 4294967296 true]):=⟨by kernel_rfl,by kernel_rfl⟩
theorem lM(pos mask lo hi:Int)(neg:Bool)(M:Mem):Rn (OR 3 pos 1 mask lo hi neg M) ((.bool true,mA M (AK neg 3 pos 1 mask lo hi)),[ET 5 lo M (AK neg 3 pos 1 mask lo hi),ET 6 hi M (AK neg 3 pos 1 mask lo hi),G2 lo hi false,b3 1 3 M (AK neg 3 pos 1 mask lo hi),b3 1 3 M (AK neg 3 pos 1 mask lo hi),b3 1 3 M (AK neg 3 pos 1 mask lo hi),b3 3 1 M (AK neg 3 pos 1 mask lo hi),b3 2 pos M (AK neg 3 pos 1 mask lo hi),Oc pos 0 true,b3 2 pos M (AK neg 3 pos 1 mask lo hi),fO pos 255 true,ET 4 mask M (AK neg 3 pos 1 mask lo hi),G2 mask 0 true,ET 4 mask M (AK neg 3 pos 1 mask lo hi),b3 3 1 M (AK neg 3 pos 1 mask lo hi),Ch mask 255 true,ET 6 hi M (AK neg 3 pos 1 mask lo hi),b3 3 1 M (AK neg 3 pos 1 mask lo hi),Ch hi 255 true,ET 4 mask M (AK neg 3 pos 1 mask lo hi),ET 6 hi M (AK neg 3 pos 1 mask lo hi)]):=⟨by kernel_rfl,by kernel_rfl⟩
theorem lN(pos mask lo hi:Int)(neg:Bool)(M:Mem):Rn (OR 3 pos 2 mask lo hi neg M) ((.bool true,mA M (AK neg 3 pos 2 mask lo hi)),[ET 5 lo M (AK neg 3 pos 2 mask lo hi),ET 6 hi M (AK neg 3 pos 2 mask lo hi),G2 lo hi false,b3 1 3 M (AK neg 3 pos 2 mask lo hi),b3 1 3 M (AK neg 3 pos 2 mask lo hi),b3 1 3 M (AK neg 3 pos 2 mask lo hi),b3 3 2 M (AK neg 3 pos 2 mask lo hi),b3 3 2 M (AK neg 3 pos 2 mask lo hi),b3 2 pos M (AK neg 3 pos 2 mask lo hi),Oc pos 0 true,b3 2 pos M (AK neg 3 pos 2 mask lo hi),fO pos 255 true,ET 4 mask M (AK neg 3 pos 2 mask lo hi),G2 mask 0 true,ET 4 mask M (AK neg 3 pos 2 mask lo hi),b3 3 2 M (AK neg 3 pos 2 mask lo hi),Ch mask 65535 true,ET 6 hi M (AK neg 3 pos 2 mask lo hi),b3 3 2 M (AK neg 3 pos 2 mask lo hi),Ch hi 65535 true,ET 4 mask M (AK neg 3 pos 2 mask lo hi),ET 6 hi M (AK neg 3 pos 2 mask lo hi)]):=⟨by kernel_rfl,by kernel_rfl⟩
theorem lO(pos mask lo hi:Int)(neg:Bool)(M:Mem):Rn (OR 3 pos 4 mask lo hi neg M) ((.bool true,mA M (AK neg 3 pos 4 mask lo hi)),[ET 5 lo M (AK neg 3 pos 4 mask lo hi),ET 6 hi M (AK neg 3 pos 4 mask lo hi),G2 lo hi false,b3 1 3 M (AK neg 3 pos 4 mask lo hi),b3 1 3 M (AK neg 3 pos 4 mask lo hi),b3 1 3 M (AK neg 3 pos 4 mask lo hi),b3 3 4 M (AK neg 3 pos 4 mask lo hi),b3 3 4 M (AK neg 3 pos 4 mask lo hi),b3 3 4 M (AK neg 3 pos 4 mask lo hi),b3 2 pos M (AK neg 3 pos 4 mask lo hi),Oc pos 0 true,b3 2 pos M (AK neg 3 pos 4 mask lo hi),fO pos 255 true,ET 4 mask M (AK neg 3 pos 4 mask lo hi),G2 mask 0 true,ET 4 mask M (AK neg 3 pos 4 mask lo hi),b3 3 4 M (AK neg 3 pos 4 mask lo hi),Ch mask 4294967295 true,ET 6 hi M (AK neg 3 pos 4 mask lo hi),b3 3 4 M (AK neg 3 pos 4 mask lo hi),Ch hi 4294967295 true,ET 4 mask M (AK neg 3 pos 4 mask lo hi),ET 6 hi M (AK neg 3 pos 4 mask lo hi)]):=⟨by kernel_rfl,by kernel_rfl⟩
theorem lP(pos mask lo hi:Int)(neg:Bool)(M:Mem):Rn (OR 3 pos 8 mask lo hi neg M) ((.bool true,mA M (AK neg 3 pos 8 mask lo hi)),[ET 5 lo M (AK neg 3 pos 8 mask lo hi),ET 6 hi M (AK neg 3 pos 8 mask lo hi),G2 lo hi false,b3 1 3 M (AK neg 3 pos 8 mask lo hi),b3 1 3 M (AK neg 3 pos 8 mask lo hi),b3 1 3 M (AK neg 3 pos 8 mask lo hi),b3 3 8 M (AK neg 3 pos 8 mask lo hi),b3 3 8 M (AK neg 3 pos 8 mask lo hi),b3 3 8 M (AK neg 3 pos 8 mask lo hi),b3 3 8 M (AK neg 3 pos 8 mask lo hi),b3 2 pos M (AK neg 3 pos 8 mask lo hi),Oc pos 0 true,b3 2 pos M (AK neg 3 pos 8 mask lo hi),fO pos 255 true,ET 4 mask M (AK neg 3 pos 8 mask lo hi),G2 mask 0 true,ET 4 mask M (AK neg 3 pos 8 mask lo hi),b3 3 8 M (AK neg 3 pos 8 mask lo hi),Ch mask 18446744073709551615 true,ET 6 hi M (AK neg 3 pos 8 mask lo hi),b3 3 8 M (AK neg 3 pos 8 mask lo hi),Ch hi 18446744073709551615 true,ET 4 mask M (AK neg 3 pos 8 mask lo hi),ET 6 hi M (AK neg 3 pos 8 mask lo hi)]):=⟨by kernel_rfl,by kernel_rfl⟩
theorem lQ(pos mask lo hi:Int)(neg:Bool)(M:Mem):Rn (OR 4 pos 1 mask lo hi neg M) ((.bool true,mA M (AK neg 4 pos 1 mask lo hi)),[ET 5 lo M (AK neg 4 pos 1 mask lo hi),ET 6 hi M (AK neg 4 pos 1 mask lo hi),G2 lo hi false,b3 1 4 M (AK neg 4 pos 1 mask lo hi),b3 1 4 M (AK neg 4 pos 1 mask lo hi),b3 1 4 M (AK neg 4 pos 1 mask lo hi),b3 1 4 M (AK neg 4 pos 1 mask lo hi),b3 3 1 M (AK neg 4 pos 1 mask lo hi),b3 2 pos M (AK neg 4 pos 1 mask lo hi),Oc pos 0 true,b3 2 pos M (AK neg 4 pos 1 mask lo hi),fO pos 255 true,ET 4 mask M (AK neg 4 pos 1 mask lo hi),G2 mask 0 true,ET 4 mask M (AK neg 4 pos 1 mask lo hi),b3 3 1 M (AK neg 4 pos 1 mask lo hi),Ch mask 255 true,ET 6 hi M (AK neg 4 pos 1 mask lo hi),b3 3 1 M (AK neg 4 pos 1 mask lo hi),Ch hi 255 true,ET 4 mask M (AK neg 4 pos 1 mask lo hi),ET 6 hi M (AK neg 4 pos 1 mask lo hi)]):=⟨by kernel_rfl,by kernel_rfl⟩
theorem lR(pos mask lo hi:Int)(neg:Bool)(M:Mem):Rn (OR 4 pos 2 mask lo hi neg M) ((.bool true,mA M (AK neg 4 pos 2 mask lo hi)),[ET 5 lo M (AK neg 4 pos 2 mask lo hi),ET 6 hi M (AK neg 4 pos 2 mask lo hi),G2 lo hi false,b3 1 4 M (AK neg 4 pos 2 mask lo hi),b3 1 4 M (AK neg 4 pos 2 mask lo hi),b3 1 4 M (AK neg 4 pos 2 mask lo hi),b3 1 4 M (AK neg 4 pos 2 mask lo hi),b3 3 2 M (AK neg 4 pos 2 mask lo hi),b3 3 2 M (AK neg 4 pos 2 mask lo hi),b3 2 pos M (AK neg 4 pos 2 mask lo hi),Oc pos 0 true,b3 2 pos M (AK neg 4 pos 2 mask lo hi),fO pos 255 true,ET 4 mask M (AK neg 4 pos 2 mask lo hi),G2 mask 0 true,ET 4 mask M (AK neg 4 pos 2 mask lo hi),b3 3 2 M (AK neg 4 pos 2 mask lo hi),Ch mask 65535 true,ET 6 hi M (AK neg 4 pos 2 mask lo hi),b3 3 2 M (AK neg 4 pos 2 mask lo hi),Ch hi 65535 true,ET 4 mask M (AK neg 4 pos 2 mask lo hi),ET 6 hi M (AK neg 4 pos 2 mask lo hi)]):=⟨by kernel_rfl,by kernel_rfl⟩
theorem lS(pos mask lo hi:Int)(neg:Bool)(M:Mem):Rn (OR 4 pos 4 mask lo hi neg M) ((.bool true,mA M (AK neg 4 pos 4 mask lo hi)),[ET 5 lo M (AK neg 4 pos 4 mask lo hi),ET 6 hi M (AK neg 4 pos 4 mask lo hi),G2 lo hi false,b3 1 4 M (AK neg 4 pos 4 mask lo hi),b3 1 4 M (AK neg 4 pos 4 mask lo hi),b3 1 4 M (AK neg 4 pos 4 mask lo hi),b3 1 4 M (AK neg 4 pos 4 mask lo hi),b3 3 4 M (AK neg 4 pos 4 mask lo hi),b3 3 4 M (AK neg 4 pos 4 mask lo hi),b3 3 4 M (AK neg 4 pos 4 mask lo hi),b3 2 pos M (AK neg 4 pos 4 mask lo hi),Oc pos 0 true,b3 2 pos M (AK neg 4 pos 4 mask lo hi),fO pos 255 true,ET 4 mask M (AK neg 4 pos 4 mask lo hi),G2 mask 0 true,ET 4 mask M (AK neg 4 pos 4 mask lo hi),b3 3 4 M (AK neg 4 pos 4 mask lo hi),Ch mask 4294967295 true,ET 6 hi M (AK neg 4 pos 4 mask lo hi),b3 3 4 M (AK neg 4 pos 4 mask lo hi),Ch hi 4294967295 true,ET 4 mask M (AK neg 4 pos 4 mask lo hi),ET 6 hi M (AK neg 4 pos 4 mask lo hi)]):=⟨by kernel_rfl,by kernel_rfl⟩
theorem lT(pos mask lo hi:Int)(neg:Bool)(M:Mem):Rn (OR 4 pos 8 mask lo hi neg M) ((.bool true,mA M (AK neg 4 pos 8 mask lo hi)),[ET 5 lo M (AK neg 4 pos 8 mask lo hi),ET 6 hi M (AK neg 4 pos 8 mask lo hi),G2 lo hi false,b3 1 4 M (AK neg 4 pos 8 mask lo hi),b3 1 4 M (AK neg 4 pos 8 mask lo hi),b3 1 4 M (AK neg 4 pos 8 mask lo hi),b3 1 4 M (AK neg 4 pos 8 mask lo hi),b3 3 8 M (AK neg 4 pos 8 mask lo hi),b3 3 8 M (AK neg 4 pos 8 mask lo hi),b3 3 8 M (AK neg 4 pos 8 mask lo hi),b3 3 8 M (AK neg 4 pos 8 mask lo hi),b3 2 pos M (AK neg 4 pos 8 mask lo hi),Oc pos 0 true,b3 2 pos M (AK neg 4 pos 8 mask lo hi),fO pos 255 true,ET 4 mask M (AK neg 4 pos 8 mask lo hi),G2 mask 0 true,ET 4 mask M (AK neg 4 pos 8 mask lo hi),b3 3 8 M (AK neg 4 pos 8 mask lo hi),Ch mask 18446744073709551615 true,ET 6 hi M (AK neg 4 pos 8 mask lo hi),b3 3 8 M (AK neg 4 pos 8 mask lo hi),Ch hi 18446744073709551615 true,ET 4 mask M (AK neg 4 pos 8 mask lo hi),ET 6 hi M (AK neg 4 pos 8 mask lo hi)]):=⟨by kernel_rfl,by kernel_rfl⟩
theorem sM{kind pos size mask lo hi:Int}(f:FuncId)(v:Value)(args:List Value)(m:Mem)(hc:(tY kind pos size mask lo hi).call f=some v)(hs:(tY kind pos size mask lo hi).says f args m v):Fm f args m=some (v,(tY kind pos size mask lo hi).eff f m):=hs.elim
theorem lU{kind pos size mask lo hi:Int}(f:FuncId)(hc:(tY kind pos size mask lo hi).call f=none)(a:List Value)(m:Mem):Fm f a m=none:=rfl
theorem Gv{kind pos size mask lo hi:Int}{neg:Bool}{M M':Mem}{qs:List Prop}(h:Rn (OR kind pos size mask lo hi neg M) ((.bool true,M'),qs))(hq:∀q∈qs,q):Hs 31 [.agg ⟨AK neg kind pos size mask lo hi⟩] M=some (.bool true,M'):=by
 obtain⟨v',m,a1,a2⟩:=H.callO_H (H:=tY kind pos size mask lo hi) (o:=Fm) (P:=Tryz.prog) (K:=kp) (G:=1) (k:=20) (f:=31) (args:= [.agg ⟨AK neg kind pos size mask lo hi⟩]) (m:=M) (g:=λv m=>(v,m)) sM lU h.1 h.2 hq
 have e1:v'=_:=congrArg (λx=>x.1) a2
 have e2:m=_:=congrArg (λx=>x.2) a2
 exact a1.trans (by rw[e1,e2])
theorem Gw{a b:Int}(h:¬b<a):G2 a b false:=by unfold G2;simp[BY,BX,B1];omega
theorem I9{a b:Int}(h:b<a):G2 a b true:=by unfold G2;simp[BY,BX,B1];omega
theorem dt{a b:Int}(h:a<b):lL a b true:=by unfold lL;simp[BY,BX,B1];omega
theorem Ia{a b:Int}(h:b<=a):Oc a b true:=by unfold Oc;simp[BY,BX,B1];omega
theorem MB{a b:Int}(h:a<=b):fO a b true:=by unfold fO;simp[BY,BX,B1];omega
theorem lV{t:A8}(hm:Cq t=true)(M:Mem):Hs 31 [.agg ⟨AQ t⟩] M=some (.bool true,mA M (AQ t)):=by
 obtain⟨neg,kind,pos,size,mask,lo,hi⟩:=t
 have etc:AQ ⟨neg,kind,pos,size,mask,lo,hi⟩=AK neg kind pos size mask lo hi:=rfl
 rw[etc]
 unfold Cq at hm
 simp only at hm
 split at hm
 ·cases hm
 rename_i hlh
 split at hm
 ·rename_i hk;have hm:=of_decide_eq_true hm;obtain⟨rfl,rfl,rfl,hh⟩:=hm;rcases hk with rfl|rfl
  ·exact Gv (vk lo hi neg M) (AA (AG (j:=5) rfl) (AA (AG (j:=6) rfl) (AA (Gw (by omega)) (AA (AG (j:=1) rfl) (AA (AG (j:=2) rfl) (AA (AG (j:=3) rfl) (AA (AG (j:=4) rfl) (AA (AG (j:=6) rfl) (AA (dt hh) (AN))))))))))
  ·exact Gv (vl lo hi neg M) (AA (AG (j:=5) rfl) (AA (AG (j:=6) rfl) (AA (Gw (by omega)) (AA (AG (j:=1) rfl) (AA (AG (j:=1) rfl) (AA (AG (j:=2) rfl) (AA (AG (j:=3) rfl) (AA (AG (j:=4) rfl) (AA (AG (j:=6) rfl) (AA (dt hh) (AN)))))))))))
 rename_i hk
 split at hm
 ·cases hm
 rename_i hk2
 split at hm
 ·cases hm
 rename_i hz
 have hm:=of_decide_eq_true hm
 obtain⟨h0,h1,h2,h3,h4⟩:=hm
 have hkk:kind=3\/kind=4:=by omega
 have hzz:size=1\/size=2\/size=4\/size=8:=by omega
 rcases hkk with rfl|rfl<;>rcases hzz with rfl|rfl|rfl|rfl
 ·exact Gv (lM pos mask lo hi neg M) (AA (AG (j:=5) rfl) (AA (AG (j:=6) rfl) (AA (Gw (by omega)) (AA (AG (j:=1) rfl) (AA (AG (j:=1) rfl) (AA (AG (j:=1) rfl) (AA (AG (j:=3) rfl) (AA (AG (j:=2) rfl) (AA (Ia h0) (AA (AG (j:=2) rfl) (AA (MB h1) (AA (AG (j:=4) rfl) (AA (I9 (by omega)) (AA (AG (j:=4) rfl) (AA (AG (j:=3) rfl) (AA (CB h3) (AA (AG (j:=6) rfl) (AA (AG (j:=3) rfl) (AA (CB h4) (AA (AG (j:=4) rfl) (AA (AG (j:=6) rfl) (AN))))))))))))))))))))))
 ·exact Gv (lN pos mask lo hi neg M) (AA (AG (j:=5) rfl) (AA (AG (j:=6) rfl) (AA (Gw (by omega)) (AA (AG (j:=1) rfl) (AA (AG (j:=1) rfl) (AA (AG (j:=1) rfl) (AA (AG (j:=3) rfl) (AA (AG (j:=3) rfl) (AA (AG (j:=2) rfl) (AA (Ia h0) (AA (AG (j:=2) rfl) (AA (MB h1) (AA (AG (j:=4) rfl) (AA (I9 (by omega)) (AA (AG (j:=4) rfl) (AA (AG (j:=3) rfl) (AA (CB h3) (AA (AG (j:=6) rfl) (AA (AG (j:=3) rfl) (AA (CB h4) (AA (AG (j:=4) rfl) (AA (AG (j:=6) rfl) (AN)))))))))))))))))))))))
 ·exact Gv (lO pos mask lo hi neg M) (AA (AG (j:=5) rfl) (AA (AG (j:=6) rfl) (AA (Gw (by omega)) (AA (AG (j:=1) rfl) (AA (AG (j:=1) rfl) (AA (AG (j:=1) rfl) (AA (AG (j:=3) rfl) (AA (AG (j:=3) rfl) (AA (AG (j:=3) rfl) (AA (AG (j:=2) rfl) (AA (Ia h0) (AA (AG (j:=2) rfl) (AA (MB h1) (AA (AG (j:=4) rfl) (AA (I9 (by omega)) (AA (AG (j:=4) rfl) (AA (AG (j:=3) rfl) (AA (CB h3) (AA (AG (j:=6) rfl) (AA (AG (j:=3) rfl) (AA (CB h4) (AA (AG (j:=4) rfl) (AA (AG (j:=6) rfl) (AN))))))))))))))))))))))))
 ·exact Gv (lP pos mask lo hi neg M) (AA (AG (j:=5) rfl) (AA (AG (j:=6) rfl) (AA (Gw (by omega)) (AA (AG (j:=1) rfl) (AA (AG (j:=1) rfl) (AA (AG (j:=1) rfl) (AA (AG (j:=3) rfl) (AA (AG (j:=3) rfl) (AA (AG (j:=3) rfl) (AA (AG (j:=3) rfl) (AA (AG (j:=2) rfl) (AA (Ia h0) (AA (AG (j:=2) rfl) (AA (MB h1) (AA (AG (j:=4) rfl) (AA (I9 (by omega)) (AA (AG (j:=4) rfl) (AA (AG (j:=3) rfl) (AA (CB h3) (AA (AG (j:=6) rfl) (AA (AG (j:=3) rfl) (AA (CB h4) (AA (AG (j:=4) rfl) (AA (AG (j:=6) rfl) (AN)))))))))))))))))))))))))
 ·exact Gv (lQ pos mask lo hi neg M) (AA (AG (j:=5) rfl) (AA (AG (j:=6) rfl) (AA (Gw (by omega)) (AA (AG (j:=1) rfl) (AA (AG (j:=1) rfl) (AA (AG (j:=1) rfl) (AA (AG (j:=1) rfl) (AA (AG (j:=3) rfl) (AA (AG (j:=2) rfl) (AA (Ia h0) (AA (AG (j:=2) rfl) (AA (MB h1) (AA (AG (j:=4) rfl) (AA (I9 (by omega)) (AA (AG (j:=4) rfl) (AA (AG (j:=3) rfl) (AA (CB h3) (AA (AG (j:=6) rfl) (AA (AG (j:=3) rfl) (AA (CB h4) (AA (AG (j:=4) rfl) (AA (AG (j:=6) rfl) (AN)))))))))))))))))))))))
 ·exact Gv (lR pos mask lo hi neg M) (AA (AG (j:=5) rfl) (AA (AG (j:=6) rfl) (AA (Gw (by omega)) (AA (AG (j:=1) rfl) (AA (AG (j:=1) rfl) (AA (AG (j:=1) rfl) (AA (AG (j:=1) rfl) (AA (AG (j:=3) rfl) (AA (AG (j:=3) rfl) (AA (AG (j:=2) rfl) (AA (Ia h0) (AA (AG (j:=2) rfl) (AA (MB h1) (AA (AG (j:=4) rfl) (AA (I9 (by omega)) (AA (AG (j:=4) rfl) (AA (AG (j:=3) rfl) (AA (CB h3) (AA (AG (j:=6) rfl) (AA (AG (j:=3) rfl) (AA (CB h4) (AA (AG (j:=4) rfl) (AA (AG (j:=6) rfl) (AN))))))))))))))))))))))))
 ·exact Gv (lS pos mask lo hi neg M) (AA (AG (j:=5) rfl) (AA (AG (j:=6) rfl) (AA (Gw (by omega)) (AA (AG (j:=1) rfl) (AA (AG (j:=1) rfl) (AA (AG (j:=1) rfl) (AA (AG (j:=1) rfl) (AA (AG (j:=3) rfl) (AA (AG (j:=3) rfl) (AA (AG (j:=3) rfl) (AA (AG (j:=2) rfl) (AA (Ia h0) (AA (AG (j:=2) rfl) (AA (MB h1) (AA (AG (j:=4) rfl) (AA (I9 (by omega)) (AA (AG (j:=4) rfl) (AA (AG (j:=3) rfl) (AA (CB h3) (AA (AG (j:=6) rfl) (AA (AG (j:=3) rfl) (AA (CB h4) (AA (AG (j:=4) rfl) (AA (AG (j:=6) rfl) (AN)))))))))))))))))))))))))
 ·exact Gv (lT pos mask lo hi neg M) (AA (AG (j:=5) rfl) (AA (AG (j:=6) rfl) (AA (Gw (by omega)) (AA (AG (j:=1) rfl) (AA (AG (j:=1) rfl) (AA (AG (j:=1) rfl) (AA (AG (j:=1) rfl) (AA (AG (j:=3) rfl) (AA (AG (j:=3) rfl) (AA (AG (j:=3) rfl) (AA (AG (j:=3) rfl) (AA (AG (j:=2) rfl) (AA (Ia h0) (AA (AG (j:=2) rfl) (AA (MB h1) (AA (AG (j:=4) rfl) (AA (I9 (by omega)) (AA (AG (j:=4) rfl) (AA (AG (j:=3) rfl) (AA (CB h3) (AA (AG (j:=6) rfl) (AA (AG (j:=3) rfl) (AA (CB h4) (AA (AG (j:=4) rfl) (AA (AG (j:=6) rfl) (AN))))))))))))))))))))))))))
noncomputable def TP:CX:=λf a M=>if f=31 then Hs 31 a M else if f=32 then Co Tryz.prog kp 1 Hs 600 32 a M else none
noncomputable def nQ(ok b1 b2 neg:Bool)(N lo hi:Int)(tv:List Value):H.Hint where
 ix _:=false
 ld _ t off:=cond (Nat.beq t 57) (some (.agg ⟨tv⟩)) (cond (Nat.beq t 38) (cond (Nat.beq off 5) (some (.int .u64 lo)) (some (.int .u64 hi))) (cond (Nat.beq t 4) (some (.bool neg)) none))
 cmp op t:=cond (Nat.beq t 38) (BinOp.rec (motive:=λ_=>Option Bool) none none none none none none none none none none none none none none (some b2) none (some b1) op) none
 ap _:=none
 call f:=cond (Nat.beq f 31) (some (.bool true)) (cond (Nat.beq f 32) (some (.tuple ⟨[.int .u64 N, .bool ok]⟩)) none)
 spec _ _ _ _:=False
 blk:=0
 eff _ m:=mA m tv
 specM f:=some λargs m v=>TP f args m=some (v,mA m tv)
noncomputable def TB(ok b1 b2 neg:Bool)(N lo hi port:Int)(tv:List Value)(pv:Value)(M:Mem):Option (H.TT (Value×Mem)):=
 H.callT (nQ ok b1 b2 neg N lo hi tv) Tryz.prog kp 1 20 16 [.agg ⟨tv⟩,pv, .int .u32 port] M λv m=>some ((v,m),[],[])
noncomputable def MR(M m:Mem)(tv:List Value):Prop:=H.ldOk (m.get M.size) 0 true 7 (.agg ⟨tv⟩)
noncomputable def fP(M:Mem)(tv:List Value):Mem:=mA (mA M tv) tv
noncomputable def Yp(M:Mem)(tv:List Value):Mem:=mA (mA (mA M tv) tv) tv
noncomputable def f16(M:Mem)(tv:List Value)(j:Nat)(v:Value):Prop:=H.ldOk ((Yp M tv).get M.size) (Nat.add 0 j) false 1 v
noncomputable def tZ(M:Mem)(tv:List Value):Prop:=TP 31 [.agg ⟨tv⟩] (mA M tv)=some (.bool true,fP M tv)
noncomputable def na(M:Mem)(tv:List Value)(pv:Value)(port N:Int)(ok:Bool):Prop:=TP 32 [.agg ⟨tv⟩,pv, .int .u32 port] (fP M tv)=some (.tuple ⟨[.int .u64 N, .bool ok]⟩,Yp M tv)
noncomputable def Uu(a b:Int)(r:Bool):Prop:=BY Tryz.prog kp .geq 38 (.int .u64 a) (.int .u64 b)=some (.bool r)
theorem lW(neg:Bool)(N lo hi port:Int)(tv:List Value)(pv:Value)(M:Mem):Rn (TB true true true neg N lo hi port tv pv M) ((.bool (!neg),Yp M tv),[MR M (mA M tv) tv,tZ M tv,MR M (fP M tv) tv,na M tv pv port N true,f16 M tv 5 (.int .u64 lo),Uu N lo true,f16 M tv 6 (.int .u64 hi),Ch N hi true,f16 M tv 0 (.bool neg)]):=by
 cases neg<;>exact⟨by kernel_rfl,by kernel_rfl⟩
theorem lX(neg:Bool)(N lo hi port:Int)(tv:List Value)(pv:Value)(M:Mem):Rn (TB true true false neg N lo hi port tv pv M) ((.bool neg,Yp M tv),[MR M (mA M tv) tv,tZ M tv,MR M (fP M tv) tv,na M tv pv port N true,f16 M tv 5 (.int .u64 lo),Uu N lo true,f16 M tv 6 (.int .u64 hi),Ch N hi false,f16 M tv 0 (.bool neg)]):=by
 cases neg<;>exact⟨by kernel_rfl,by kernel_rfl⟩
theorem sP(neg:Bool)(N lo hi port:Int)(tv:List Value)(pv:Value)(M:Mem):Rn (TB true false false neg N lo hi port tv pv M) ((.bool neg,Yp M tv),[MR M (mA M tv) tv,tZ M tv,MR M (fP M tv) tv,na M tv pv port N true,f16 M tv 5 (.int .u64 lo),Uu N lo false,f16 M tv 0 (.bool neg)]):=by
 cases neg<;>exact⟨by kernel_rfl,by kernel_rfl⟩
theorem sQ(neg:Bool)(N lo hi port:Int)(tv:List Value)(pv:Value)(M:Mem):Rn (TB false false false neg N lo hi port tv pv M) ((.bool neg,Yp M tv),[MR M (mA M tv) tv,tZ M tv,MR M (fP M tv) tv,na M tv pv port N false,f16 M tv 0 (.bool neg)]):=by
 cases neg<;>exact⟨by kernel_rfl,by kernel_rfl⟩
theorem Qv(B0:Nat):CU Tryz.prog B0 1 Hs:=Cr Bw hK Ee (SS B0) JA 20
theorem OS:B9 Hs:=CL JA 20
theorem Qw:B9 TP:=λf a M v M' h=>by
 unfold TP at h
 split at h
 ·exact OS _ _ _ _ _ h
 ·split at h
  ·exact GD OS 600 32 a M v M' h
  ·cases h
theorem sR(B0:Nat):CU Tryz.prog B0 1 TP:=by
 have ih:=HL Bw hK Ee (Qv B0) OS 600
 refine⟨λf a M v M' h=>(Qw f a M v M' h).size,λf a M v M' h=>?_,λf a M v M' h=>?_⟩
 all_goals
  unfold TP at h;split at h
  ·rename_i e;subst e
   first|exact(Qv B0).ok _ _ _ _ _ h|exact(Qv B0).body _ _ _ _ _ h
  ·split at h
   ·rename_i e;subst e
    first|exact ih.ok _ _ _ _ _ h|exact ih.body _ _ _ _ _ h
   ·cases h
theorem sS(a:List Value)(M:Mem):TP 31 a M=Hs 31 a M:=if_pos rfl
theorem du(a:List Value)(M:Mem):TP 32 a M=Co Tryz.prog kp 1 Hs 600 32 a M:=(if_neg (by decide)).trans (if_pos rfl)
theorem lY{f:FuncId}(h:f≠31)(h':f≠32)(a:List Value)(M:Mem):TP f a M=none:=(if_neg h).trans (if_neg h')
theorem sT{ok b1 b2 neg:Bool}{N lo hi:Int}{tv:List Value}(f:FuncId)(v:Value)(args:List Value)(m:Mem)(hc:(nQ ok b1 b2 neg N lo hi tv).call f=some v)(hs:(nQ ok b1 b2 neg N lo hi tv).says f args m v):TP f args m=some (v,(nQ ok b1 b2 neg N lo hi tv).eff f m):=hs
theorem lZ{ok b1 b2 neg:Bool}{N lo hi:Int}{tv:List Value}(f:FuncId)(hc:(nQ ok b1 b2 neg N lo hi tv).call f=none)(a:List Value)(m:Mem):TP f a m=none:=
 lY (by rintro rfl;cases hc) (by rintro rfl;cases hc) a m
noncomputable abbrev Uv:Ed:=CJ Tryz.prog kp 1 TP 20
theorem Ki{ok b1 b2 neg b:Bool}{N lo hi port:Int}{tv:List Value}{pv:Value}{M M':Mem}{qs:List Prop}(h:Rn (TB ok b1 b2 neg N lo hi port tv pv M) ((.bool b,M'),qs))(hq:∀q∈qs,q):Uv 16 [.agg ⟨tv⟩,pv, .int .u32 port] M=some (.bool b,M'):=by
 obtain⟨v',m,a1,a2⟩:=H.callO_H (H:=nQ ok b1 b2 neg N lo hi tv) (o:=TP) (P:=Tryz.prog) (K:=kp) (G:=1) (k:=20) (f:=16) (args:= [.agg ⟨tv⟩,pv, .int .u32 port]) (m:=M) (g:=λv m=>(v,m)) sT lZ h.1 h.2 hq
 have e1:v'=_:=congrArg (λx=>x.1) a2
 have e2:m=_:=congrArg (λx=>x.2) a2
 exact a1.trans (by rw[e1,e2])
theorem ID.ext{M M':Mem}{pv:Value}{pk:List Int}(h:ID M pv pk)(x:Ext M M'):ID M' pv pk:=by
 rcases h with g|⟨k,sp,cap,own,h1,h2,h3,h4,h5,h6⟩
 ·exact .inl g
 ·exact .inr ⟨k,sp,cap,own,h1,h2,h3,Nat.lt_of_lt_of_le h4 x.size,h5,(x.get k h4).trans h6⟩
theorem sU{M:Mem}{c:List Value}:(mA M c).get M.size= .cells true c:=Mem.get_push_same ..
theorem sV{M:Mem}{c:List Value}:(fP M c).get M.size= .cells true c:=by
 unfold fP mA
 rw[Mem.get_push_ne _ (by show M.size≠M.size+1;omega),Mem.get_push_same]
theorem sW{M:Mem}{c:List Value}:(Yp M c).get M.size= .cells true c:=by
 unfold Yp mA
 rw[Mem.get_push_ne _ (by show M.size≠M.size+1+1;omega),Mem.get_push_ne _ (by show M.size≠M.size+1;omega),Mem.get_push_same]
theorem Uw{M:Mem}{c:List Value}:Ext M (Yp M c):=((Ext.push M _).trans (Ext.push _ _)).trans (Ext.push _ _)
theorem dv{a b:Int}(h:b<=a):Uu a b true:=by unfold Uu;simp[BY,BX,B1];omega
theorem sX{a b:Int}(h:¬b<=a):Uu a b false:=by unfold Uu;simp[BY,BX,B1];omega
theorem Hn{M:Mem}{tv:List Value}{j:Nat}{v:Value}(h:tv[j]?=some v):f16 M tv j v:=by
 unfold f16
 rw[sW]
 show tv[Nat.add 0 j]?=_
 rw[show Nat.add 0 j=j from Nat.zero_add j]
 exact h
theorem MC{M:Mem}{t:A8}{pk:List Int}{pv:Value}{port:Int}(hm:Cq t=true)(hr:C2 t)(hb:∀b∈pk,0<=b/\b<256)(hn:pk.length<=65535)(hpk:ID M pv pk)(hp:0<=port/\port<4294967296):
  Uv 16 [.agg ⟨AQ t⟩,pv, .int .u32 port] M=some (.bool (BN t pk port),Yp M (AQ t)):=by
 have p1:MR M (mA M (AQ t)) (AQ t):=by unfold MR;rw[sU];exact Qo rfl
 have p2:tZ M (AQ t):=by unfold tZ;rw[sS];exact lV hm _
 have p3:MR M (fP M (AQ t)) (AQ t):=by unfold MR;rw[sV];exact Qo rfl
 have p4:=Yo (M:=fP M (AQ t)) hm hr hb hn (hpk.ext ((Ext.push M _).trans (Ext.push _ _))) hp
 have eH:BN t pk port=((match Cs t pk port with|some n=>decide (t.lo<=n/\n<=t.hi)|none=>false) !=t.neg):=rfl
 rw[eH]
 obtain⟨neg,kind,pos,size,mask,lo,hi⟩:=t
 have etc:AQ ⟨neg,kind,pos,size,mask,lo,hi⟩=AK neg kind pos size mask lo hi:=rfl
 rw[etc]at p1 p2 p3 p4 ⊢
 cases hask:Cs ⟨neg,kind,pos,size,mask,lo,hi⟩ pk port with
 |none=>
  rw[hask]at p4;have p4:na M (AK neg kind pos size mask lo hi) pv port 0 false:=by unfold na;rw[du];exact p4
  have:=Ki (sQ neg 0 lo hi port _ pv M) (AA p1 (AA p2 (AA p3 (AA p4 (AA (Hn rfl) AN)))));rw[this];cases neg<;>rfl
 |some n=>
  rw[hask]at p4;have p4:na M (AK neg kind pos size mask lo hi) pv port n true:=by unfold na;rw[du];exact p4
  refine FO (n:=n) (lo:=lo) (hi:=hi) (neg:=neg) (R:=λb=>Uv 16 [.agg ⟨AK neg kind pos size mask lo hi⟩,pv, .int .u32 port] M=some (.bool b,Yp M (AK neg kind pos size mask lo hi))) ?_ ?_ ?_
  ·intro h1 h2;exact Ki (lW neg n lo hi port _ pv M) (AA p1 (AA p2 (AA p3 (AA p4 (AA (Hn rfl) (AA (dv h1) (AA (Hn rfl) (AA (CB h2) (AA (Hn rfl) AN)))))))))
  ·intro h1 h2;exact Ki (lX neg n lo hi port _ pv M) (AA p1 (AA p2 (AA p3 (AA p4 (AA (Hn rfl) (AA (dv h1) (AA (Hn rfl) (AA (FP h2) (AA (Hn rfl) AN)))))))))
  ·intro h1;exact Ki (sP neg n lo hi port _ pv M) (AA p1 (AA p2 (AA p3 (AA p4 (AA (Hn rfl) (AA (sX h1) (AA (Hn rfl) AN)))))))
theorem XL(B0:Nat):CU Tryz.prog B0 1 Uv:=Cr Bw hK Ee (sR B0) Qw 20
theorem TC:B9 Uv:=CL Qw 20
noncomputable def Ml:CX:=G8 gl 16 Uv Yc
theorem rZ(B0:Nat):CU Tryz.prog B0 1 Ml:=GR CO XL TC B0
theorem XA:B9 Ml:=E9 CO XL TC
theorem sY{M:Mem}{t:A8}{pk:List Int}{pv:Value}{port:Int}(hM:M.top)(h0:M.get 0= .cells false gl)(h1:1<=M.size)(hm:Cq t=true)(hr:C2 t)(hb:∀b∈pk,0<=b/\b<256)(hn:pk.length<=65535)(hpk:ID M pv pk)(hp:0<=port/\port<4294967296):
  Ml 16 [.agg ⟨AQ t⟩,pv, .int .u32 port] M=some (.bool (BN t pk port),M):=by
 rcases hpk with⟨rfl,rfl⟩|⟨k,sp,cap,own,rfl,hc,hsp,hk,hk0,gk⟩
 ·have a1:=MC (M:=mS gl []) hm hr hb hn (.inl ⟨rfl,rfl⟩) hp;exact EN (op:=Yc) (bs:= []) rfl (P2 hM h0 h1) (.cons ((EF rfl).sim _ _) (.cons ((D9 _ _).sim _ _) (.cons ((CH _ _).sim _ _) .nil))) a1 rfl ((Uw.get 0 (Ql [])).trans (Mj _)) (λi s hi=>by simp at hi)
 ·have hsz:(mS gl [.cells own (AH pk)]).size=2:=by unfold mS;rw[CQ,mG_size];rfl
  have hg1:(mS gl [.cells own (AH pk)]).get 1= .cells own (AH pk):=by
   have:=Bf [.cells own (AH pk)] (mG gl) 1;unfold mS;rw[this,mG_size,if_neg (by decide)];rfl
  have a1:=MC (M:=mS gl [.cells own (AH pk)]) (pv:=IA pk.length cap sp) hm hr hb hn (.inr ⟨1,sp,cap,own,rfl,hc,hsp,by rw[hsz];decide,by decide,hg1⟩) hp;have a3:(Yp (mS gl [.cells own (AH pk)]) (AQ t)).get 1= .cells own (AH pk):=(Uw.get 1 (by rw[hsz];decide)).trans hg1
  refine EN (op:=Yc) (sa:= [.agg ⟨AQ t⟩,IA pk.length cap sp, .int .u32 port]) (bs:= [k]) rfl (nS hM h0 h1 hk hk0 gk) ?_ (m:=Yp (mS gl [.cells own (AH pk)]) (AQ t)) (by
   show Uv 16 _ (mS gl [M.get k])=_;rw[gk];exact a1) rfl ((Uw.get 0 (Ql _)).trans (Mj _)) (λi s hi=>?_)
  ·have hb1:(λi=>Nat.blt i (1+ [k].length)) 1=true:=rfl;refine .cons ((EF rfl).sim _ _) (.cons ?_ (.cons ((CH _ _).sim _ _) .nil));cases sp with
   |none=>exact KM (ρ:=DH [k] M) hb1
   |some e=>exact Da (ρ:=DH [k] M) hb1
  ·rcases i with _|i
   ·have hi:some (M.get k)=some s:=hi;cases hi;rw[gk];exact a3
   ·cases hi
noncomputable def l4:Code:=AP Tryz.f10
noncomputable def dw(c:Code)(i:Nat):Code:=match(items c)[i]? with|some (.block _ (.loop c))=>c|_=> .skip
noncomputable def vm(c:Code)(i:Nat):Code:=match(items c)[i]? with|some (.block _ c)=>c|_=> .skip
noncomputable def Ux(c:Code)(i:Nat):Code:=match(items c)[i]? with|some c=>c|_=> .skip
noncomputable def OT:Code:=dw l4 2
noncomputable def Od:Code:=vm OT 2
noncomputable def dx:Code:=dw Od 2
theorem dy:(items l4).drop 2= .block 0 (.loop OT)::(items l4).drop 3:=by kernel_rfl
theorem l5:(items OT).drop 2= [.block 1 Od,Ux OT 3]:=by kernel_rfl
theorem XM:(items Od).drop 2= .block 2 (.loop dx)::(items Od).drop 3:=by kernel_rfl
noncomputable def TR(lt hb:Bool)(sv:Value)(tv:List Value)(ve:Int)(o:CX):H.Hint where
 ix t:=cond (Nat.beq t 22) true (Nat.beq t 53)
 ld _ t _:=cond (Nat.beq t 53) (some sv) (cond (Nat.beq t 57) (some (.agg ⟨tv⟩)) (cond (Nat.beq t 24) (some (.int .u32 ve)) none))
 cmp op t:=cond (Nat.beq t 3) (BinOp.rec (motive:=λ_=>Option Bool) none none none none none none none none none none none none none (some lt) none none none op) none
 ap _:=none
 call f:=cond (Nat.beq f 16) (some (.bool hb)) none
 spec _ _ _ _:=False
 blk:=0
 specM f:=some λargs m v=>o f args m=some (v,m)
noncomputable def vn:List Nat:= [0,1,2,8,9,10]
noncomputable def vo:List Nat:= [0,1,2,8]
noncomputable def l6(rv pv:Value)(port i:Int)(all:Bool)(j:Int):List (Nat×Value):=vn.zip [rv,pv, .int .u32 port, .int .i64 i, .bool all, .int .i64 j]
noncomputable def Uy(rv pv:Value)(port i:Int):List (Nat×Value):=vo.zip [rv,pv, .int .u32 port, .int .i64 i]
noncomputable def dz(i:Int)(n:Nat):Prop:=0<=i/\i< (n:Int)
noncomputable def nc(M:Mem)(rb:Nat)(i:Int)(j:Nat)(v:Value):Prop:=H.ldOk (M.get rb) (Nat.add (Nat.add 0 (Nat.mul i.toNat 2)) j) false 1 v
noncomputable def wW(i:Int)(n:Nat)(b:Bool):Prop:=BY Tryz.prog kp .lss 3 (.int .i64 i) (.int .i64 (Int.ofNat n))=some (.bool b)
section
variable(k:Nat)(x:Nat->Value)(o:CX)(pv:Value)(port i j:Int)(rb:Nat)(sp:Option Nat)(n cap:Nat)(ta:Option Addr)(tn tc:Nat)(a:Option Addr)(M:Mem)
theorem vp(hb:Bool)(tb:Nat)(tp:Option Nat)(neg:Bool)(kind pos size mask lo hi:Int):
  Rn (Hy (TR true hb (.slice (some ⟨tb,0,tp⟩) tn tc) (AK neg kind pos size mask lo hi) 0 o) Tryz.prog kp k dx 48 vn (AB 48 (up x (l6 (.slice (some ⟨rb,0,sp⟩) n cap) pv port i true j))) M) ((.normal,[.slice (some ⟨rb,0,sp⟩) n cap,pv, .int .u32 port, .int .i64 i, .bool hb, .int .i64 (IntKind.wrap .i64 (Int.add j 1))],M),
    [dz i n,nc M rb i 0 (.slice (some ⟨tb,0,tp⟩) tn tc),wW j tn true,dz i n,nc M rb i 0 (.slice (some ⟨tb,0,tp⟩) tn tc),dz j tn,H.ldOk (M.get tb) (Nat.add 0 (Nat.mul j.toNat 7)) true 7 (.agg ⟨AK neg kind pos size mask lo hi⟩),o 16 [.agg ⟨AK neg kind pos size mask lo hi⟩,pv, .int .u32 port] M=some (.bool hb,M)]):=⟨by kernel_rfl,by kernel_rfl⟩
theorem vq:
  Rn (Hy (TR true false (.slice ta tn tc) [] 0 o) Tryz.prog kp k dx 48 vn (AB 48 (up x (l6 (.slice (some ⟨rb,0,sp⟩) n cap) pv port i false j))) M) ((.normal,[.slice (some ⟨rb,0,sp⟩) n cap,pv, .int .u32 port, .int .i64 i, .bool false, .int .i64 (IntKind.wrap .i64 (Int.add j 1))],M),
    [dz i n,nc M rb i 0 (.slice ta tn tc),wW j tn true]):=⟨by kernel_rfl,by kernel_rfl⟩
theorem nf(all:Bool):
  Rn (Hy (TR false false (.slice ta tn tc) [] 0 o) Tryz.prog kp k dx 48 vn (AB 48 (up x (l6 (.slice (some ⟨rb,0,sp⟩) n cap) pv port i all j))) M) ((.exit 2,[.slice (some ⟨rb,0,sp⟩) n cap,pv, .int .u32 port, .int .i64 i, .bool all, .int .i64 j],M),
    [dz i n,nc M rb i 0 (.slice ta tn tc),wW j tn false]):=⟨by kernel_rfl,by kernel_rfl⟩
theorem sZ(lt:Bool):
  Rn (Hy (TR lt false undef [] 0 o) Tryz.prog kp k (Dl ((items OT).take 2)) 48 vo (AB 48 (up x (Uy (.slice a n cap) pv port i))) M) ((cond lt .normal (.exit 0),[.slice a n cap,pv, .int .u32 port, .int .i64 i],M),[wW i n lt]):=by
 cases lt<;>exact⟨by kernel_rfl,by kernel_rfl⟩
theorem zS(rv:Value):
  Rn (Hy (TR true false undef [] 0 o) Tryz.prog kp k (Dl ((items Od).take 2)) 48 vn (AB 48 (up x (Uy rv pv port i))) M) ((.normal,[rv,pv, .int .u32 port, .int .i64 i, .bool true, .int .i64 0],M),[]):=⟨by kernel_rfl,by kernel_rfl⟩
theorem vu(ve:Int):
  Rn (Hy (TR true false undef [] ve o) Tryz.prog kp k (Dl ((items Od).drop 3)) 48 [6,7] (AB 48 (up x (l6 (.slice (some ⟨rb,0,sp⟩) n cap) pv port i true j))) M) ((.ret,[.int .u32 ve, .int .i64 i],M),[dz i n,nc M rb i 1 (.int .u32 ve)]):=⟨by kernel_rfl,by kernel_rfl⟩
theorem vv(rv:Value):
  Rn (Hy (TR true false undef [] 0 o) Tryz.prog kp k (Dl ((items Od).drop 3)) 48 vo (AB 48 (up x (l6 rv pv port i false j))) M) ((.normal,[rv,pv, .int .u32 port, .int .i64 i],M),[]):=⟨by kernel_rfl,by kernel_rfl⟩
theorem zU(rv:Value):
  Rn (Hy (TR true false undef [] 0 o) Tryz.prog kp k (Ux OT 3) 48 vo (AB 48 (up x (Uy rv pv port i))) M) ((.normal,[rv,pv, .int .u32 port, .int .i64 (IntKind.wrap .i64 (Int.add i 1))],M),[]):=⟨by kernel_rfl,by kernel_rfl⟩
theorem zV:
  Rn (Hy (TR true false undef [] 0 o) Tryz.prog kp k (Dl ((items l4).take 2)) 48 vo (AB 48 (Bq [.slice a n cap,pv, .int .u32 port])) M) ((.normal,[.slice a n cap,pv, .int .u32 port, .int .i64 0],M),[]):=⟨by kernel_rfl,by kernel_rfl⟩
theorem zW(rv:Value):
  Rn (Hy (TR true false undef [] 0 o) Tryz.prog kp k (Dl ((items l4).drop 3)) 48 [6,7] (AB 48 (up x (Uy rv pv port i))) M) ((.ret,[.int .u32 0, .int .i64 (-1)],M),[]):=⟨by kernel_rfl,by kernel_rfl⟩
end
theorem HY:Gr 48:=by
 intro x d v hd
 refine⟨up x [(d,v)],?_⟩
 iterate 48 (rcases d with _|d;· kernel_rfl)
 omega
theorem FQ{lt hb:Bool}{sv:Value}{tv:List Value}{ve:Int}(f:FuncId)(v:Value)(args:List Value)(m:Mem)(hc:(TR lt hb sv tv ve Ml).call f=some v)(hs:(TR lt hb sv tv ve Ml).says f args m v):Ml f args m=some (v,(TR lt hb sv tv ve Ml).eff f m):=hs
theorem EG{lt hb:Bool}{sv:Value}{tv:List Value}{ve:Int}(f:FuncId)(hc:(TR lt hb sv tv ve Ml).call f=none)(a:List Value)(m:Mem):Ml f a m=none:=Cy (by rintro rfl;cases hc) a m
noncomputable abbrev Uo:Ed:=CJ Tryz.prog kp 1 Ml 20
noncomputable abbrev ng(k:Nat):AF->Mem->Option (Ex×AF×Mem):=AJ Tryz.prog kp 1 Uo (AY Tryz.prog kp 1 Uo 48) 48 k dx
noncomputable abbrev Kj(k:Nat):AF->Mem->Option (Ex×AF×Mem):=AJ Tryz.prog kp 1 Uo (AY Tryz.prog kp 1 Uo 48) 48 k OT
theorem Kk{M:Mem}{rb:Nat}{own:Bool}{rest:List Value}{vr:List (Value×BB)}{i:Nat}{v:Value}{r:BB}(hg:M.get rb= .cells own (vr.flatMap B7++rest))(hi:vr[i]?=some (v,r)){j:Nat}{u:Value}(hj:(B7 (v,r))[j]?=some u):nc M rb (i:Int) j u:=by
 have h1:=Cj CK hi rest
 rw[Y.subL_eq]at h1
 unfold nc
 rw[hg]
 show(vr.flatMap B7++rest)[Nat.add (Nat.add 0 (Nat.mul i 2)) j]?=some u
 have hj2:j<2:=by
  have:=(List.getElem?_eq_some_iff.1 hj).1;rw[CK]at this;exact this
 rw[←hj,←h1,List.getElem?_take_of_lt hj2,List.getElem?_drop]
 rfl
section
variable{M:Mem}{pv v:Value}{pk:List Int}{port:Int}{rb cap:Nat}{sp:Option Nat}{vr:List (Value×BB)}{rest:List Value}{own:Bool}{r:BB}
theorem Qx(hS:Qn M pv pk)(hb:∀b∈pk,0<=b/\b<256)(hn:pk.length<=65535)(hp:0<=port/\port<4294967296)(hg:M.get rb= .cells own (vr.flatMap B7++rest)){i:Nat}{tb tc:Nat}{tp:Option Nat}{ts:List A8}(hv:vr[i]?=some (.slice (some ⟨tb,0,tp⟩) ts.length tc,r))
  {tr:List Value} {ot:Bool} (ht:M.get tb= .cells ot (ts.flatMap AQ++tr)) (hl:ts.length<=100) (hm:∀t∈ts,Cq t=true/\C2 t) (kk:Nat):
  ∀(d j:Nat),ts.length=j+d->∀(jj:Nat) (x:Nat->Value) (all:Bool),d+1<=jj->
  ∃x' j',BM (ng kk) jj (AB 48 (up x (l6 (.slice (some ⟨rb,0,sp⟩) vr.length cap) pv port (i:Int) all (j:Int)))) M=some (.exit 2,AB 48 (up x' (l6 (.slice (some ⟨rb,0,sp⟩) vr.length cap) pv port (i:Int) (all && (ts.drop j).all (λt=>BN t pk port)) j')),M)
 |0,j,hj,jj,x,all,hjj=>by
  obtain⟨jj,rfl⟩:∃j',jj=j'+1:=⟨jj - 1,by omega⟩;obtain rfl:j=ts.length:=by omega
  have hlt:i<vr.length:=(List.getElem?_eq_some_iff.1 hv).1;obtain⟨q1,q2⟩:=nf kk x Ml pv port (i:Int) (ts.length:Int) rb sp vr.length cap (some ⟨tb,0,tp⟩) ts.length tc M all;obtain⟨x1,h1⟩:=BR HY rfl FQ EG q1 q2 (AA (show dz (i:Int) vr.length from⟨by omega,by omega⟩) (AA (Kk hg hv rfl) (AA (Hj (Nat.lt_irrefl _)) AN)));rw[List.drop_length,List.all_nil,Bool.and_true];exact⟨x1,_,Bm h1 (by simp)⟩
 |d+1,j,hj,jj,x,all,hjj=>by
  obtain⟨jj,rfl⟩:∃j',jj=j'+1:=⟨jj - 1,by omega⟩;have hlt:j<ts.length:=by omega
  have hli:i<vr.length:=(List.getElem?_eq_some_iff.1 hv).1;obtain⟨t,htj⟩:∃t,ts[j]?=some t:=⟨_,List.getElem?_eq_getElem hlt⟩;have hmt:=hm t (List.mem_of_getElem? htj);have pi:dz (i:Int) vr.length:=⟨by omega,by omega⟩;have pf:nc M rb (i:Int) 0 (.slice (some ⟨tb,0,tp⟩) ts.length tc):=Kk hg hv rfl;have hd:ts.drop j=t::ts.drop (j+1):=Kb htj;rw[hd,List.all_cons];cases all with
  |false=>
   obtain⟨q1,q2⟩:=vq kk x Ml pv port (i:Int) (j:Int) rb sp vr.length cap (some ⟨tb,0,tp⟩) ts.length tc M;obtain⟨x1,h1⟩:=BR HY rfl FQ EG q1 q2 (AA pi (AA pf (AA (Jr hlt) AN)));rw[HX (by omega)]at h1;obtain⟨x2,j2,h2⟩:=Qx hS hb hn hp hg hv ht hl hm kk d (j+1) (by omega) jj x1 false (by omega);rw[Bool.false_and]at h2 ⊢;exact⟨x2,j2,CV h1 h2⟩
  |true=>
   obtain⟨q1,q2⟩:=vp kk x Ml pv port (i:Int) (j:Int) rb sp vr.length cap ts.length tc M (BN t pk port) tb tp t.neg t.kind t.pos t.size t.mask t.lo t.hi;have hsay:Ml 16 [.agg ⟨AQ t⟩,pv, .int .u32 port] M=some (.bool (BN t pk port),M):=sY hS.top hS.gl0 hS.pos hmt.1 hmt.2 hb hn hS.pk hp;obtain⟨x1,h1⟩:=BR HY rfl FQ EG q1 q2 (AA pi (AA pf (AA (Jr hlt) (AA pi (AA pf (AA (show dz (j:Int) ts.length from⟨by omega,by omega⟩) (AA (OL (g:=AQ) DO htj ht) (AA hsay AN))))))));rw[HX (by omega)]at h1;obtain⟨x2,j2,h2⟩:=Qx hS hb hn hp hg hv ht hl hm kk d (j+1) (by omega) jj x1 (BN t pk port) (by omega);rw[Bool.true_and];exact⟨x2,j2,CV h1 h2⟩
theorem eA(hS:Qn M pv pk)(hb:∀b∈pk,0<=b/\b<256)(hn:pk.length<=65535)(hp:0<=port/\port<4294967296)(hg:M.get rb= .cells own (vr.flatMap B7++rest)){i:Nat}(hi:vr[i]?=some (v,r))(hv:CS (Bo M) v r.tests)(hl:r.tests.length<=100)(hm:∀t∈r.tests,Cq t=true/\C2 t){kk jj:Nat}(hjj:101<=jj)(x:Nat->Value):
  ∃x' j',BM (ng kk) jj (AB 48 (up x (l6 (.slice (some ⟨rb,0,sp⟩) vr.length cap) pv port (i:Int) true 0))) M=some (.exit 2,AB 48 (up x' (l6 (.slice (some ⟨rb,0,sp⟩) vr.length cap) pv port (i:Int) (r.tests.all (λt=>BN t pk port)) j')),M):=by
 have hli:i<vr.length:=(List.getElem?_eq_some_iff.1 hi).1
 obtain⟨a,tc,rfl,hv⟩:=hv
 by_cases e:r.tests= []
 ·obtain⟨jj,rfl⟩:∃j',jj=j'+1:=⟨jj - 1,by omega⟩;have hl0:r.tests.length=0:=by rw[e];rfl
  obtain⟨q1,q2⟩:=nf kk x Ml pv port (i:Int) 0 rb sp vr.length cap a r.tests.length tc M true;obtain⟨x1,h1⟩:=BR HY rfl FQ EG q1 q2 (AA (show dz (i:Int) vr.length from⟨by omega,by omega⟩) (AA (Kk hg hi rfl) (AA (by rw[hl0];exact Hj (i:=0) (n:=0) (Nat.lt_irrefl _)) AN)));rw[e,List.all_nil];exact⟨x1,0,Bm h1 (by simp)⟩
 ·obtain⟨b,tp,ot,tr,rfl,hk⟩:=hv e;obtain⟨x1,j1,h1⟩:=Qx (sp:=sp) (cap:=cap) hS hb hn hp hg hi (Fa hk).2 hl hm kk r.tests.length 0 (by omega) jj x true (by omega);rw[Bool.true_and,List.drop_zero]at h1;exact⟨x1,j1,h1⟩
theorem l7(hS:Qn M pv pk)(hb:∀b∈pk,0<=b/\b<256)(hn:pk.length<=65535)(hp:0<=port/\port<4294967296)(hg:M.get rb= .cells own (vr.flatMap B7++rest))(hlv:vr.length<=100){i:Nat}(hi:vr[i]?=some (v,r))(hv:CS (Bo M) v r.tests)(hl:r.tests.length<=100)(hm:∀t∈r.tests,Cq t=true/\C2 t){kk:Nat}(hkk:101<=kk)(x:Nat->Value):
  ∃x',Kj kk (AB 48 (up x (Uy (.slice (some ⟨rb,0,sp⟩) vr.length cap) pv port (i:Int)))) M=
   if r.tests.all (λt=>BN t pk port)=true then some (.ret,AB 48 (up x' [(6, .int .u32 r.verdict),(7, .int .i64 (i:Int))]),M)else some (.normal,AB 48 (up x' (Uy (.slice (some ⟨rb,0,sp⟩) vr.length cap) pv port ((i+1:Nat):Int))),M):=by
 have hlt:i<vr.length:=(List.getElem?_eq_some_iff.1 hi).1
 obtain⟨q1,q2⟩:=sZ kk x Ml pv port (i:Int) vr.length cap (some ⟨rb,0,sp⟩) M true
 obtain⟨x1,h1⟩:=BR HY rfl FQ EG q1 q2 (AA (Jr hlt) AN)
 obtain⟨q1,q2⟩:=zS kk x1 Ml pv port (i:Int) M (.slice (some ⟨rb,0,sp⟩) vr.length cap)
 obtain⟨x2,h2⟩:=BR HY rfl FQ EG q1 q2 AN
 obtain⟨x3,j',h3⟩:=eA (sp:=sp) (cap:=cap) hS hb hn hp hg hi hv hl hm (kk:=kk) hkk x2
 have hcut:Kj kk (AB 48 (up x (Uy (.slice (some ⟨rb,0,sp⟩) vr.length cap) pv port (i:Int)))) M=AJ Tryz.prog kp 1 Uo (AY Tryz.prog kp 1 Uo 48) 48 kk (.seq (.block 1 Od) (Ux OT 3)) (AB 48 (up x1 (Uy (.slice (some ⟨rb,0,sp⟩) vr.length cap) pv port (i:Int)))) M:=by
  rw[show Kj kk _ M=_ from HT 2 OT h1,l5];rfl
 by_cases hh:r.tests.all (λt=>BN t pk port)=true
 ·rw[hh]at h3;obtain⟨q1,q2⟩:=vu kk x3 Ml pv port (i:Int) j' rb sp vr.length cap M r.verdict;obtain⟨x4,h4⟩:=BR HY rfl FQ EG q1 q2 (AA (show dz (i:Int) vr.length from⟨by omega,by omega⟩) (AA (Kk hg hi rfl) AN));have hI:=(GG 2 Od XM h2 h3).trans h4;exact⟨x4,by rw[if_pos hh];exact hcut.trans (SX hI (by simp) (by simp))⟩
 ·have hf:r.tests.all (λt=>BN t pk port)=false:=by simpa using hh
  rw[hf]at h3;obtain⟨q1,q2⟩:=vv kk x3 Ml pv port (i:Int) j' M (.slice (some ⟨rb,0,sp⟩) vr.length cap);obtain⟨x4,h4⟩:=BR HY rfl FQ EG q1 q2 AN;have hI:=(GG 2 Od XM h2 h3).trans h4;obtain⟨q1,q2⟩:=zU kk x4 Ml pv port (i:Int) M (.slice (some ⟨rb,0,sp⟩) vr.length cap);obtain⟨x5,h5⟩:=BR HY rfl FQ EG q1 q2 AN;rw[HX (by omega)]at h5;exact⟨x5,by rw[if_neg hh];exact hcut.trans ((bQ hI).trans h5)⟩
theorem XN(hS:Qn M pv pk)(hb:∀b∈pk,0<=b/\b<256)(hn:pk.length<=65535)(hp:0<=port/\port<4294967296)(hg:M.get rb= .cells own (vr.flatMap B7++rest))(hlv:vr.length<=100)(hv:∀p∈vr,CS (Bo M) p.1 p.2.tests)(hm:∀p∈vr,p.2.tests.length<=100/\∀t∈p.2.tests,Cq t=true/\C2 t){kk:Nat}(hkk:101<=kk):
  ∀(d i:Nat),vr.length=i+d->∀(jj:Nat) (x:Nat->Value),d+1<=jj->
  ∃x',(BM (Kj kk) jj (AB 48 (up x (Uy (.slice (some ⟨rb,0,sp⟩) vr.length cap) pv port (i:Int)))) M=some (.ret,AB 48 (up x' [(6, .int .u32 (C5 pk port ((vr.map (·.2)).drop i))),(7, .int .i64 (Fc pk port ((vr.map (·.2)).drop i) i))]),M)\/
   (BM (Kj kk) jj (AB 48 (up x (Uy (.slice (some ⟨rb,0,sp⟩) vr.length cap) pv port (i:Int)))) M=some (.exit 0,AB 48 (up x' (Uy (.slice (some ⟨rb,0,sp⟩) vr.length cap) pv port (vr.length:Int))),M)/\C5 pk port ((vr.map (·.2)).drop i)=0/\Fc pk port ((vr.map (·.2)).drop i) i= -1))
 |0,i,hi,jj,x,hjj=>by
  obtain⟨jj,rfl⟩:∃j',jj=j'+1:=⟨jj - 1,by omega⟩;obtain rfl:i=vr.length:=by omega
  obtain⟨q1,q2⟩:=sZ kk x Ml pv port (vr.length:Int) vr.length cap (some ⟨rb,0,sp⟩) M false;obtain⟨x1,h1⟩:=BR HY rfl FQ EG q1 q2 (AA (Hj (Nat.lt_irrefl _)) AN);have h2:Kj kk _ M=_:=Dz 2 OT (by simp) h1;refine⟨x1, .inr ⟨Bm h2 (by simp),?_,?_⟩⟩
  ·rw[List.drop_eq_nil_of_le (by rw[List.length_map];exact Nat.le_refl _)];rfl
  ·rw[List.drop_eq_nil_of_le (by rw[List.length_map];exact Nat.le_refl _)];rfl
 |d+1,i,hi,jj,x,hjj=>by
  obtain⟨jj,rfl⟩:∃j',jj=j'+1:=⟨jj - 1,by omega⟩;have hlt:i<vr.length:=by omega
  obtain⟨⟨v,r⟩,hr⟩:∃p,vr[i]?=some p:=⟨_,List.getElem?_eq_getElem hlt⟩;have hmem:=List.mem_of_getElem? hr;obtain⟨x1,h1⟩:=l7 (cap:=cap) (sp:=sp) hS hb hn hp hg hlv hr (hv _ hmem) (hm _ hmem).1 (hm _ hmem).2 hkk x;have hd:(vr.map (·.2)).drop i=r::(vr.map (·.2)).drop (i+1):=Kb (by rw[List.getElem?_map,hr];rfl);rw[hd,C5,Fc];by_cases hh:r.tests.all (λt=>BN t pk port)=true
  ·rw[if_pos hh]at h1;rw[if_pos hh,if_pos hh];exact⟨x1, .inl (Bm h1 (by simp))⟩
  ·rw[if_neg hh]at h1;rw[if_neg hh,if_neg hh];obtain⟨x2,h2⟩:=XN hS hb hn hp hg hlv hv hm hkk d (i+1) (by omega) jj x1 (by omega);refine⟨x2,?_⟩;rcases h2 with h2|⟨h2,h3⟩
   ·exact .inl (CV h1 h2)
   ·exact .inr ⟨CV h1 h2,h3⟩
end
theorem l8{pv:Value}{port:Int}{a:Option Addr}{cap:Nat}{M:Mem}(kk jj:Nat)(x:Nat->Value):∃x',BM (Kj kk) (jj+1) (AB 48 (up x (Uy (.slice a 0 cap) pv port 0))) M=some (.exit 0,AB 48 (up x' (Uy (.slice a 0 cap) pv port 0)),M):=by
 obtain⟨q1,q2⟩:=sZ kk x Ml pv port 0 0 cap a M false
 obtain⟨x1,h1⟩:=BR HY rfl FQ EG q1 q2 (AA (Hj (i:=0) (n:=0) (Nat.lt_irrefl _)) AN)
 have h2:Kj kk _ M=_:=Dz 2 OT (by simp) h1
 exact⟨x1,Bm h2 (by simp)⟩
theorem vw:Tryz.prog.funcs[10]?=some Tryz.f10:=by kernel_rfl
theorem vx:Tryz.f10.body=some l4:=by kernel_rfl
theorem vy:Tryz.f10.ntmps=48:=by kernel_rfl
theorem vz(x:Nat->Value)(a b:Value)(M:Mem):DM Tryz.prog (AB 48 (up x [(6,a),(7,b)])) M Tryz.f10.results.toList=some [a,b]:=by kernel_rfl
theorem Qq{M:Mem}{pv v:Value}{pk:List Int}{port:Int}{rs:List BB}(hS:Qn M pv pk)(hb:∀b∈pk,0<=b/\b<256)(hn:pk.length<=65535)(hp:0<=port/\port<4294967296)(hF:zD rs)(hv:DD (Bo M) v rs){kk:Nat}(hkk:101<=kk):
  Co Tryz.prog kp 1 Uo kk 10 [v,pv, .int .u32 port] M=some (.tuple ⟨[.int .u32 (C5 pk port rs), .int .i64 (Fc pk port rs 0)]⟩,M):=by
 obtain⟨a,cap,rfl,hv⟩:=hv
 obtain⟨q1,q2⟩:=zV kk Ml pv port rs.length cap a M
 obtain⟨x1,h1⟩:=BR (x:=Bq [.slice a rs.length cap,pv, .int .u32 port]) HY rfl FQ EG q1 q2 AN
 have fin:∀{x':Nat->Value} {A B:Value},AJ Tryz.prog kp 1 Uo (AY Tryz.prog kp 1 Uo 48) 48 kk l4 (AB 48 (Bq [.slice a rs.length cap,pv, .int .u32 port])) M=some (.ret,AB 48 (up x' [(6,A),(7,B)]),M)->Co Tryz.prog kp 1 Uo kk 10 [.slice a rs.length cap,pv, .int .u32 port] M=some (.tuple ⟨[A,B]⟩,M):=λh=>
  F9 vw vx (by rw[vy];rfl) h (vz ..)
 have ends:∀{x2:Nat->Value} {i:Int},BM (Kj kk) kk (AB 48 (up x1 (Uy (.slice a rs.length cap) pv port 0))) M=some (.exit 0,AB 48 (up x2 (Uy (.slice a rs.length cap) pv port i)),M)->Co Tryz.prog kp 1 Uo kk 10 [.slice a rs.length cap,pv, .int .u32 port] M=some (.tuple ⟨[.int .u32 0, .int .i64 (-1)]⟩,M):=λ{x2 i} h=>by
  obtain⟨q1,q2⟩:=zW kk x2 Ml pv port i M (.slice a rs.length cap);obtain⟨x3,h3⟩:=BR HY rfl FQ EG q1 q2 AN;exact fin ((GG 2 l4 dy h1 h).trans h3)
 by_cases e:rs= []
 ·subst e;obtain⟨kk,rfl⟩:∃k',kk=k'+1:=⟨kk - 1,by omega⟩;obtain⟨x2,h2⟩:=l8 (pv:=pv) (port:=port) (a:=a) (cap:=cap) (M:=M) (kk+1) kk x1;exact ends h2
 ·obtain⟨b,sp,own,rest,vr,rfl,hm,hk,hts⟩:=hv e;have hk:=Fa hk;have hlen:rs.length=vr.length:=by rw[←hm,List.length_map]
  have hF2:∀p∈vr,p.2.tests.length<=100/\∀t∈p.2.tests,Cq t=true/\C2 t:=λp hp=>hF.2 _ (by rw[←hm];exact List.mem_map.2 ⟨p,hp,rfl⟩);obtain⟨x2,h2⟩:=XN (cap:=cap) (sp:=sp) hS hb hn hp hk.2 (by rw[←hlen];exact hF.1) hts hF2 hkk vr.length 0 (by omega) kk x1 (by have:=hF.1;omega);rw[List.drop_zero,hm,←hlen]at h2;rcases h2 with h2|⟨h2,h3,h4⟩
  ·exact fin (He 2 l4 dy h1 h2 (by simp) (by simp))
  ·rw[h3,h4];exact ends h2
set_option maxHeartbeats 4000000
variable{α:Type}(x:Nat->Value)(cf:Y.CF α)(L:Y.LK α)(k:Nat)(m:Mem)
noncomputable def c7:Code:=D8 [4,5,6,11] (BK Tryz.f8 0)
noncomputable def Xk:List Oper:=CA 4 (AP Tryz.f8)
noncomputable def Xl:List Oper:=CA 5 (AP Tryz.f8)
noncomputable def iD:List Oper:=CA 6 (AP Tryz.f8)
noncomputable def JI:List Oper:=CA 11 (AP Tryz.f8)
noncomputable def Zt:Code:=D8 [8,9] (BK Tryz.f8 1)
noncomputable def Xm:List Oper:=CA 8 (AP Tryz.f8)
noncomputable def OY:List Oper:=CA 9 (AP Tryz.f8)
theorem aC(ra:Option Addr)(rn rc:Nat)(q:Value->Mem->Option α):Y.codeF (AP Tryz.f8) Tryz.prog kp 1 (Y.cfT Tryz.prog cf) L 52 k (AB 52 (Bq [.slice ra rn rc])) m (Y.retF Tryz.prog Tryz.f8 q)=
 (L (λt m q=>Y.codeF (Y.loopC (AP Tryz.f8) 0) Tryz.prog kp 1 (Y.cfT Tryz.prog cf) L 52 k t m q) (Y.loopC (AP Tryz.f8) 0) k (AB 52 (up (up Go.DI.x0 [(0,.slice ra rn rc),(2,.slice none 0 0)]) [(3,.slice none 0 0),(9,.slice ra rn rc),(10,.int .i64 (Int.ofNat rn)),(11,.int .i64 0)])) m (Y.kont Tryz.prog kp 1 (Y.cfT Tryz.prog cf) L 52 k (AP Tryz.f8) 0 (Y.retF Tryz.prog Tryz.f8 q))):=by kernel_rfl
theorem aA(oa:Option Addr)(on:Nat)(rb:Nat)(rp:Option Nat)(rn rc:Nat)(i:Int)(q:Y.ExK α):Y.codeF c7 Tryz.prog kp 1 (Y.cfT Tryz.prog cf) L 52 k (AB 52 (up x [(3,.slice oa on on),(9,.slice (some ⟨rb,0,rp⟩) rn rc),(10,.int .i64 rn),(11,.int .i64 i)])) m q=
 (cond (Y.ltF i (Int.ofNat rn)) (L (λt m q=>Y.codeF (Y.loopC c7 0) Tryz.prog kp 1 (Y.cfT Tryz.prog cf) L 52 k t m q) (Y.loopC c7 0) k (AB 52 (up (up x [(12,.bool true)]) [(3,.slice oa on on),(9,.slice (some (Addr.mk rb 0 rp)) rn rc),(10,.int .i64 (Int.ofNat rn)),(11,.int .i64 i)])) m (Y.kont Tryz.prog kp 1 (Y.cfT Tryz.prog cf) L 52 k c7 0 q)) (q (Ex.exit 0) (AB 52 (up (up x [(12,.bool false)]) [(3,.slice oa on on),(9,.slice (some (Addr.mk rb 0 rp)) rn rc),(10,.int .i64 (Int.ofNat rn)),(11,.int .i64 i)])) m)):=by kernel_rfl
theorem ou(oa:Option Addr)(on:Nat)(rb:Nat)(rp:Option Nat)(rn rc:Nat)(i:Int)(q:AF->Mem->Option α):Y.opsF (List.take 3 Xk) Tryz.prog kp 1 (Y.cfT Tryz.prog cf) 52 Xk (AB 52 (up x [(3,.slice oa on on),(9,.slice (some ⟨rb,0,rp⟩) rn rc),(10,.int .i64 rn),(11,.int .i64 i)])) m q=
 (Y.onNat i (λA=>cond (Nat.blt A rn) (Y.cellsOf (Mem.get m rb) (λ_ B=>cond (Nat.ble (Nat.add (Nat.add 0 (Nat.mul A 2)) 2) (Y.lenLF B)) (q (AB 52 (up (up x [(13,.pointer (some ⟨rb,Nat.add 0 (Nat.mul A 2),none⟩))]) [(3,.slice oa on on),(5,.pointer (some ⟨Mem.size m,0,none⟩)),(9,.slice (some (Addr.mk rb 0 rp)) rn rc),(10,.int .i64 (Int.ofNat rn)),(11,.int .i64 i),(14,.agg ⟨Y.subL B (Nat.add 0 (Nat.mul A 2)) 2⟩)])) (Mem.push m (.cells true [.slice none 0 0,.int .u32 0]))) none)) none)):=by kernel_rfl
theorem ov(oa:Option Addr)(on:Nat)(rb:Nat)(rp:Option Nat)(rn rc:Nat)(i:Int)(xb:Nat)(q:Y.ExK α):Y.kont Tryz.prog kp 1 (Y.cfT Tryz.prog cf) L 52 k c7 0 q .normal (AB 52 (up x [(3,.slice oa on on),(5,.pointer (some ⟨xb,0,none⟩)),(9,.slice (some ⟨rb,0,rp⟩) rn rc),(10,.int .i64 rn),(11,.int .i64 i)])) m=
 (L (λt m q=>Y.codeF (Y.loopC c7 1) Tryz.prog kp 1 (Y.cfT Tryz.prog cf) L 52 k t m q) (Y.loopC c7 1) k (AB 52 (up x [(3,.slice oa on on),(5,.pointer (some ⟨xb,0,none⟩)),(9,.slice (some (Addr.mk rb 0 rp)) rn rc),(10,.int .i64 (Int.ofNat rn)),(11,.int .i64 i)])) m (Y.kont Tryz.prog kp 1 (Y.cfT Tryz.prog cf) L 52 k c7 1 q)):=by kernel_rfl
theorem ow(oa:Option Addr)(on:Nat)(rb:Nat)(rp:Option Nat)(rn rc:Nat)(i:Int)(xb:Nat)(q:AF->Mem->Option α):Y.opsF (List.take 4 Xl) Tryz.prog kp 1 (Y.cfT Tryz.prog cf) 52 Xl (AB 52 (up x [(3,.slice oa on on),(5,.pointer (some ⟨xb,0,none⟩)),(9,.slice (some ⟨rb,0,rp⟩) rn rc),(10,.int .i64 rn),(11,.int .i64 i)])) m q=
 (Y.cellsOf (Mem.get m xb) (λ_ B=>Option.elim (Y.nthL B 1) none (λC=>Y.asInt C (λD A=>cond (Y.kEq .u32 D) (q (AB 52 (up (up x [(16,.int .u32 A),(15,.pointer (some ⟨xb,1,none⟩))]) [(3,.slice oa on on),(5,.pointer (some ⟨xb,0,none⟩)),(6,.pointer (some ⟨Mem.size m,0,none⟩)),(9,.slice (some (Addr.mk rb 0 rp)) rn rc),(10,.int .i64 (Int.ofNat rn)),(11,.int .i64 i),(17,.agg ⟨[.slice none 0 0,.int .u32 A]⟩)])) (Mem.push m (.cells true [.slice none 0 0,.int .u32 0]))) none) none))):=by kernel_rfl
theorem ox(oa:Option Addr)(on:Nat)(rb:Nat)(rp:Option Nat)(rn rc:Nat)(i:Int)(xb:Nat)(yb:Nat)(q:Y.ExK α):Y.kont Tryz.prog kp 1 (Y.cfT Tryz.prog cf) L 52 k c7 1 q .normal (AB 52 (up x [(3,.slice oa on on),(5,.pointer (some ⟨xb,0,none⟩)),(6,.pointer (some ⟨yb,0,none⟩)),(9,.slice (some ⟨rb,0,rp⟩) rn rc),(10,.int .i64 rn),(11,.int .i64 i)])) m=
 (L (λt m q=>Y.codeF (Y.loopC c7 2) Tryz.prog kp 1 (Y.cfT Tryz.prog cf) L 52 k t m q) (Y.loopC c7 2) k (AB 52 (up x [(3,.slice oa on on),(5,.pointer (some ⟨xb,0,none⟩)),(6,.pointer (some ⟨yb,0,none⟩)),(9,.slice (some (Addr.mk rb 0 rp)) rn rc),(10,.int .i64 (Int.ofNat rn)),(11,.int .i64 i)])) m (Y.kont Tryz.prog kp 1 (Y.cfT Tryz.prog cf) L 52 k c7 2 q)):=by kernel_rfl
theorem oy(oa:Option Addr)(on:Nat)(rb:Nat)(rp:Option Nat)(rn rc:Nat)(i:Int)(xb:Nat)(yb:Nat)(q:AF->Mem->Option α):Y.opsF (iD) Tryz.prog kp 1 (Y.cfT Tryz.prog cf) 52 iD (AB 52 (up x [(3,.slice oa on on),(5,.pointer (some ⟨xb,0,none⟩)),(6,.pointer (some ⟨yb,0,none⟩)),(9,.slice (some ⟨rb,0,rp⟩) rn rc),(10,.int .i64 rn),(11,.int .i64 i)])) m q=
 (Y.cellsOf (Mem.get m xb) (λ_ B=>Option.elim (Y.nthL B 0) none (λC=>Y.asSl C (λD A E=>q (AB 52 (up (up x [(18,.pointer (some ⟨xb,0,none⟩)),(5,.pointer (some ⟨xb,0,none⟩))]) [(3,.slice oa on on),(6,.pointer (some ⟨yb,0,none⟩)),(9,.slice (some (Addr.mk rb 0 rp)) rn rc),(10,.int .i64 (Int.ofNat rn)),(11,.int .i64 i),(19,.slice D A E),(20,.int .i64 (Int.ofNat A)),(21,.int .i64 0)])) m) none))):=by kernel_rfl
theorem oz(oa:Option Addr)(on:Nat)(rb:Nat)(rp:Option Nat)(rn rc:Nat)(i:Int)(yb:Nat)(ta:Option Addr)(tn tc:Nat)(j:Int)(q:Y.ExK α):Y.kont Tryz.prog kp 1 (Y.cfT Tryz.prog cf) L 52 k c7 2 q .normal (AB 52 (up x [(3,.slice oa on on),(6,.pointer (some ⟨yb,0,none⟩)),(9,.slice (some ⟨rb,0,rp⟩) rn rc),(10,.int .i64 rn),(11,.int .i64 i),(19,.slice ta tn tc),(20,.int .i64 tn),(21,.int .i64 j)])) m=
 (L (λt m q=>Y.codeF (Y.loopC c7 3) Tryz.prog kp 1 (Y.cfT Tryz.prog cf) L 52 k t m q) (Y.loopC c7 3) k (AB 52 (up x [(3,.slice oa on on),(6,.pointer (some ⟨yb,0,none⟩)),(9,.slice (some (Addr.mk rb 0 rp)) rn rc),(10,.int .i64 (Int.ofNat rn)),(11,.int .i64 i),(19,.slice ta tn tc),(20,.int .i64 (Int.ofNat tn)),(21,.int .i64 j)])) m (Y.kont Tryz.prog kp 1 (Y.cfT Tryz.prog cf) L 52 k c7 3 q)):=by kernel_rfl
theorem pA(oa:Option Addr)(on:Nat)(rb:Nat)(rp:Option Nat)(rn rc:Nat)(i:Int)(yb:Nat)(ta:Option Addr)(tn tc:Nat)(j:Int)(q:Y.ExK α):Y.kont Tryz.prog kp 1 (Y.cfT Tryz.prog cf) L 52 k c7 3 q (.exit 2) (AB 52 (up x [(3,.slice oa on on),(6,.pointer (some ⟨yb,0,none⟩)),(9,.slice (some ⟨rb,0,rp⟩) rn rc),(10,.int .i64 rn),(11,.int .i64 i),(19,.slice ta tn tc),(20,.int .i64 tn),(21,.int .i64 j)])) m=
 (L (λt m q=>Y.codeF (Y.loopC c7 4) Tryz.prog kp 1 (Y.cfT Tryz.prog cf) L 52 k t m q) (Y.loopC c7 4) k (AB 52 (up (up x [(20,.int .i64 (Int.ofNat tn)),(21,.int .i64 j),(19,.slice ta tn tc)]) [(3,.slice oa on on),(6,.pointer (some ⟨yb,0,none⟩)),(9,.slice (some (Addr.mk rb 0 rp)) rn rc),(10,.int .i64 (Int.ofNat rn)),(11,.int .i64 i)])) m (Y.kont Tryz.prog kp 1 (Y.cfT Tryz.prog cf) L 52 k c7 4 q)):=by kernel_rfl
theorem iO(oa:Option Addr)(on:Nat)(rb:Nat)(rp:Option Nat)(rn rc:Nat)(i:Int)(yb:Nat)(q:AF->Mem->Option α):Y.opsF (List.take 2 JI) Tryz.prog kp 1 (Y.cfT Tryz.prog cf) 52 JI (AB 52 (up x [(3,.slice oa on on),(6,.pointer (some ⟨yb,0,none⟩)),(9,.slice (some ⟨rb,0,rp⟩) rn rc),(10,.int .i64 rn),(11,.int .i64 i)])) m q=
 (Y.cellsOf (Mem.get m yb) (λ_ A=>cond (Nat.ble 2 (Y.lenLF A)) (q (AB 52 (up (up x [(6,.pointer (some ⟨yb,0,none⟩)),(3,.slice oa on on)]) [(9,.slice (some (Addr.mk rb 0 rp)) rn rc),(10,.int .i64 (Int.ofNat rn)),(11,.int .i64 i),(46,.slice oa on on),(47,.agg ⟨Y.subL A 0 2⟩)])) m) none)):=by kernel_rfl
theorem aB(w9 w10 w11:Value)(oa ya:Option Addr)(on yn yc:Nat)(ve:Int)(q:AF->Mem->Option α):Y.opsF (List.take 1 (List.drop 2 JI)) Tryz.prog kp 1 (Y.cfT Tryz.prog cf) 52 JI (AB 52 (up x [(9,w9),(10,w10),(11,w11),(46,.slice oa on on),(47,.agg ⟨[.slice ya yn yc,.int .u32 ve]⟩)])) m q=
 (q (AB 52 (up (up x [(47,.agg ⟨[.slice ya yn yc,.int .u32 ve]⟩)]) [(9,w9),(10,w10),(11,w11),(46,.slice oa on on),(48,.slice (some ⟨Mem.size m,0,none⟩) 1 1)])) (Mem.push m (.cells true [.slice ya yn yc,.int .u32 ve]))):=by kernel_rfl
theorem pB(oa:Option Addr)(on:Nat)(rb:Nat)(rp:Option Nat)(rn rc:Nat)(i:Int)(q:Y.ExK α):Y.kont Tryz.prog kp 1 (Y.cfT Tryz.prog cf) L 52 k c7 4 q .normal (AB 52 (up x [(3,.slice oa on on),(9,.slice (some ⟨rb,0,rp⟩) rn rc),(10,.int .i64 rn),(11,.int .i64 i)])) m=
 (q .normal (AB 52 (up (up x [(50,.int .i64 (IntKind.wrap .i64 (Int.add i 1)))]) [(3,.slice oa on on),(9,.slice (some (Addr.mk rb 0 rp)) rn rc),(10,.int .i64 (Int.ofNat rn)),(11,.int .i64 (IntKind.wrap .i64 (Int.add i 1)))])) m):=by kernel_rfl
theorem Zv(oa:Option Addr)(on:Nat)(rb:Nat)(rp:Option Nat)(rn rc:Nat)(i:Int)(yb tb:Nat)(tp:Option Nat)(tn tc:Nat)(j:Int)(q:Y.ExK α):Y.codeF Zt Tryz.prog kp 1 (Y.cfT Tryz.prog cf) L 52 k (AB 52 (up x [(3,.slice oa on on),(6,.pointer (some ⟨yb,0,none⟩)),(9,.slice (some ⟨rb,0,rp⟩) rn rc),(10,.int .i64 rn),(11,.int .i64 i),(19,.slice (some ⟨tb,0,tp⟩) tn tc),(20,.int .i64 tn),(21,.int .i64 j)])) m q=
 (cond (Y.ltF j (Int.ofNat tn)) (L (λt m q=>Y.codeF (Y.loopC Zt 0) Tryz.prog kp 1 (Y.cfT Tryz.prog cf) L 52 k t m q) (Y.loopC Zt 0) k (AB 52 (up (up x [(22,.bool true)]) [(3,.slice oa on on),(6,.pointer (some ⟨yb,0,none⟩)),(9,.slice (some (Addr.mk rb 0 rp)) rn rc),(10,.int .i64 (Int.ofNat rn)),(11,.int .i64 i),(19,.slice (some (Addr.mk tb 0 tp)) tn tc),(20,.int .i64 (Int.ofNat tn)),(21,.int .i64 j)])) m (Y.kont Tryz.prog kp 1 (Y.cfT Tryz.prog cf) L 52 k Zt 0 q)) (q (Ex.exit 2) (AB 52 (up (up x [(22,.bool false)]) [(3,.slice oa on on),(6,.pointer (some ⟨yb,0,none⟩)),(9,.slice (some (Addr.mk rb 0 rp)) rn rc),(10,.int .i64 (Int.ofNat rn)),(11,.int .i64 i),(19,.slice (some (Addr.mk tb 0 tp)) tn tc),(20,.int .i64 (Int.ofNat tn)),(21,.int .i64 j)])) m)):=by kernel_rfl
theorem oi(oa:Option Addr)(on:Nat)(rb:Nat)(rp:Option Nat)(rn rc:Nat)(i:Int)(yb tb:Nat)(tp:Option Nat)(tn tc:Nat)(j:Int)(q:AF->Mem->Option α):Y.opsF (List.take 3 Xm) Tryz.prog kp 1 (Y.cfT Tryz.prog cf) 52 Xm (AB 52 (up x [(3,.slice oa on on),(6,.pointer (some ⟨yb,0,none⟩)),(9,.slice (some ⟨rb,0,rp⟩) rn rc),(10,.int .i64 rn),(11,.int .i64 i),(19,.slice (some ⟨tb,0,tp⟩) tn tc),(20,.int .i64 tn),(21,.int .i64 j)])) m q=
 (Y.onNat j (λA=>cond (Nat.blt A tn) (Y.cellsOf (Mem.get m tb) (λ_ B=>cond (Nat.ble (Nat.add (Nat.add 0 (Nat.mul A 7)) 7) (Y.lenLF B)) (q (AB 52 (up (up x [(23,.pointer (some ⟨tb,Nat.add 0 (Nat.mul A 7),none⟩))]) [(3,.slice oa on on),(6,.pointer (some ⟨yb,0,none⟩)),(8,.pointer (some ⟨Mem.size m,0,none⟩)),(9,.slice (some (Addr.mk rb 0 rp)) rn rc),(10,.int .i64 (Int.ofNat rn)),(11,.int .i64 i),(19,.slice (some (Addr.mk tb 0 tp)) tn tc),(20,.int .i64 (Int.ofNat tn)),(21,.int .i64 j),(24,.agg ⟨Y.subL B (Nat.add 0 (Nat.mul A 7)) 7⟩)])) (Mem.push m (.cells true [.bool false,.int .i64 0,.int .i64 0,.int .i64 0,.int .u64 0,.int .u64 0,.int .u64 0]))) none)) none)):=by kernel_rfl
theorem om(oa:Option Addr)(on:Nat)(rb:Nat)(rp:Option Nat)(rn rc:Nat)(i:Int)(yb tb:Nat)(tp:Option Nat)(tn tc:Nat)(j:Int)(zb:Nat)(q:Y.ExK α):Y.kont Tryz.prog kp 1 (Y.cfT Tryz.prog cf) L 52 k Zt 0 q .normal (AB 52 (up x [(3,.slice oa on on),(6,.pointer (some ⟨yb,0,none⟩)),(8,.pointer (some ⟨zb,0,none⟩)),(9,.slice (some ⟨rb,0,rp⟩) rn rc),(10,.int .i64 rn),(11,.int .i64 i),(19,.slice (some ⟨tb,0,tp⟩) tn tc),(20,.int .i64 tn),(21,.int .i64 j)])) m=
 (L (λt m q=>Y.codeF (Y.loopC Zt 1) Tryz.prog kp 1 (Y.cfT Tryz.prog cf) L 52 k t m q) (Y.loopC Zt 1) k (AB 52 (up x [(3,.slice oa on on),(6,.pointer (some ⟨yb,0,none⟩)),(8,.pointer (some ⟨zb,0,none⟩)),(9,.slice (some (Addr.mk rb 0 rp)) rn rc),(10,.int .i64 (Int.ofNat rn)),(11,.int .i64 i),(19,.slice (some (Addr.mk tb 0 tp)) tn tc),(20,.int .i64 (Int.ofNat tn)),(21,.int .i64 j)])) m (Y.kont Tryz.prog kp 1 (Y.cfT Tryz.prog cf) L 52 k Zt 1 q)):=by kernel_rfl
theorem oo(oa:Option Addr)(on:Nat)(rb:Nat)(rp:Option Nat)(rn rc:Nat)(i:Int)(yb tb:Nat)(tp:Option Nat)(tn tc:Nat)(j:Int)(zb:Nat)(q:AF->Mem->Option α):Y.opsF (List.take 17 OY) Tryz.prog kp 1 (Y.cfT Tryz.prog cf) 52 OY (AB 52 (up x [(3,.slice oa on on),(6,.pointer (some ⟨yb,0,none⟩)),(8,.pointer (some ⟨zb,0,none⟩)),(9,.slice (some ⟨rb,0,rp⟩) rn rc),(10,.int .i64 rn),(11,.int .i64 i),(19,.slice (some ⟨tb,0,tp⟩) tn tc),(20,.int .i64 tn),(21,.int .i64 j)])) m q=
 (Y.cellsOf (Mem.get m yb) (λ_ H=>Option.elim (Y.nthL H 0) none (λI=>Y.asSl I (λJ N O=>Y.cellsOf (Mem.get m zb) (λ_ Q=>Option.elim (Y.nthL Q 0) none (λR=>Y.asBo R (λA=>Y.cellsOf (Mem.get m zb) (λ_ S=>Option.elim (Y.nthL S 1) none (λT=>Y.asInt T (λU B=>cond (Y.kEq .i64 U) (Y.cellsOf (Mem.get m zb) (λ_ V=>Option.elim (Y.nthL V 2) none (λW=>Y.asInt W (λX C=>cond (Y.kEq .i64 X) (Y.cellsOf (Mem.get m zb) (λ_ Z=>Option.elim (Y.nthL Z 3) none (λAa=>Y.asInt Aa (λAb D=>cond (Y.kEq .i64 Ab) (Y.cellsOf (Mem.get m zb) (λ_ Ac=>Option.elim (Y.nthL Ac 4) none (λAd=>Y.asInt Ad (λAe E=>cond (Y.kEq .u64 Ae) (Y.cellsOf (Mem.get m zb) (λ_ Af=>Option.elim (Y.nthL Af 5) none (λAg=>Y.asInt Ag (λAh F=>cond (Y.kEq .u64 Ah) (Y.cellsOf (Mem.get m zb) (λ_ Ai=>Option.elim (Y.nthL Ai 6) none (λAj=>Y.asInt Aj (λAk G=>cond (Y.kEq .u64 Ak) (q (AB 52 (up (up x [(32,.int .i64 C),(8,.pointer (some ⟨zb,0,none⟩)),(40,.int .u64 G),(36,.int .u64 E),(28,.bool A),(34,.int .i64 D),(38,.int .u64 F),(30,.int .i64 B),(33,.pointer (some ⟨zb,3,none⟩)),(25,.pointer (some ⟨yb,0,none⟩)),(37,.pointer (some ⟨zb,5,none⟩)),(29,.pointer (some ⟨zb,1,none⟩)),(35,.pointer (some ⟨zb,4,none⟩)),(27,.pointer (some ⟨zb,0,none⟩)),(39,.pointer (some ⟨zb,6,none⟩)),(31,.pointer (some ⟨zb,2,none⟩))]) [(3,.slice oa on on),(6,.pointer (some ⟨yb,0,none⟩)),(9,.slice (some (Addr.mk rb 0 rp)) rn rc),(10,.int .i64 (Int.ofNat rn)),(11,.int .i64 i),(19,.slice (some (Addr.mk tb 0 tp)) tn tc),(20,.int .i64 (Int.ofNat tn)),(21,.int .i64 j),(26,.slice J N O),(41,.agg ⟨[.bool A,.int .i64 B,.int .i64 C,.int .i64 D,.int .u64 E,.int .u64 F,.int .u64 G]⟩)])) m) none) none))) none) none))) none) none))) none) none))) none) none))) none) none))) none))) none))):=by kernel_rfl
theorem iN(oa:Option Addr)(on:Nat)(rb:Nat)(rp:Option Nat)(rn rc:Nat)(i:Int)(yb tb:Nat)(tp:Option Nat)(tn tc:Nat)(j:Int)(w26:Value)(g:Bool)(ki p s ma lo hi:Int)(q:AF->Mem->Option α):Y.opsF (List.take 1 (List.drop 17 OY)) Tryz.prog kp 1 (Y.cfT Tryz.prog cf) 52 OY (AB 52 (up x [(3,.slice oa on on),(6,.pointer (some ⟨yb,0,none⟩)),(9,.slice (some ⟨rb,0,rp⟩) rn rc),(10,.int .i64 rn),(11,.int .i64 i),(19,.slice (some ⟨tb,0,tp⟩) tn tc),(20,.int .i64 tn),(21,.int .i64 j),(26,w26),(41,.agg ⟨[.bool g,.int .i64 ki,.int .i64 p,.int .i64 s,.int .u64 ma,.int .u64 lo,.int .u64 hi]⟩)])) m q=
 (q (AB 52 (up (up x [(41,.agg ⟨[.bool g,.int .i64 ki,.int .i64 p,.int .i64 s,.int .u64 ma,.int .u64 lo,.int .u64 hi]⟩)]) [(3,.slice oa on on),(6,.pointer (some ⟨yb,0,none⟩)),(9,.slice (some (Addr.mk rb 0 rp)) rn rc),(10,.int .i64 (Int.ofNat rn)),(11,.int .i64 i),(19,.slice (some (Addr.mk tb 0 tp)) tn tc),(20,.int .i64 (Int.ofNat tn)),(21,.int .i64 j),(26,w26),(42,.slice (some ⟨Mem.size m,0,none⟩) 1 1)])) (Mem.push m (.cells true [.bool g,.int .i64 ki,.int .i64 p,.int .i64 s,.int .u64 ma,.int .u64 lo,.int .u64 hi]))):=by kernel_rfl
theorem oq(oa:Option Addr)(on:Nat)(rb:Nat)(rp:Option Nat)(rn rc:Nat)(i:Int)(yb tb:Nat)(tp:Option Nat)(tn tc:Nat)(j:Int)(q:Y.ExK α):Y.kont Tryz.prog kp 1 (Y.cfT Tryz.prog cf) L 52 k Zt 1 q .normal (AB 52 (up x [(3,.slice oa on on),(6,.pointer (some ⟨yb,0,none⟩)),(9,.slice (some ⟨rb,0,rp⟩) rn rc),(10,.int .i64 rn),(11,.int .i64 i),(19,.slice (some ⟨tb,0,tp⟩) tn tc),(20,.int .i64 tn),(21,.int .i64 j)])) m=
 (q .normal (AB 52 (up (up x [(45,.int .i64 (IntKind.wrap .i64 (Int.add j 1)))]) [(3,.slice oa on on),(6,.pointer (some ⟨yb,0,none⟩)),(9,.slice (some (Addr.mk rb 0 rp)) rn rc),(10,.int .i64 (Int.ofNat rn)),(11,.int .i64 i),(19,.slice (some (Addr.mk tb 0 tp)) tn tc),(20,.int .i64 (Int.ofNat tn)),(21,.int .i64 (IntKind.wrap .i64 (Int.add j 1)))])) m):=by kernel_rfl
theorem Xn(oa:Option Addr)(on:Nat)(w9 w10 w11:Value)(q:Value->Mem->Option α):Y.kont Tryz.prog kp 1 (Y.cfT Tryz.prog cf) L 52 k (AP Tryz.f8) 0 (Y.retF Tryz.prog Tryz.f8 q) (.exit 0) (AB 52 (up x [(3,.slice oa on on),(9,w9),(10,w10),(11,w11)])) m=
 (q (.slice oa on on) m):=by kernel_rfl
end
end Go.Proofs.YtgjflcgmieiafaaGreatDoor
namespace Go.Proofs.YtgjflcgmieiafaaGreatDoor
open Go Go.DI Go.DI.Kit Go.Proofs Go.Cmp
noncomputable section
theorem at7:Tryz.prog.funcs[8]?=some Tryz.f8:=by kernel_rfl
theorem bd7:Tryz.f8.body=some (AP Tryz.f8):=by kernel_rfl
theorem nt7:Tryz.f8.ntmps=52:=by kernel_rfl
theorem n7{a:Value}:max [a].length Tryz.f8.ntmps=52:=by rw[nt7];rfl
theorem tz{a:Option Addr}{n c:Nat}:Ib Tryz.prog 8 (.slice a n c)=true:=by kernel_rfl
theorem uA:Tryz.prog.underlying 48=some (.slice 52):=by kernel_rfl
theorem wy:Bv Tryz.prog 48=some 1:=by kernel_rfl
theorem wz:bytesOf Tryz.prog 52=some 56:=by kernel_rfl
theorem xA:(Dv Tryz.prog 52 1).isSome=true:=by kernel_rfl
theorem mb:Tryz.prog.underlying 36=some (.slice 50):=by kernel_rfl
theorem uB:bytesOf Tryz.prog 50=some 32:=by kernel_rfl
theorem uC:(Dv Tryz.prog 50 1).isSome=true:=by kernel_rfl
theorem xB:Bv Tryz.prog 57=some 7:=by kernel_rfl
section
variable{α:Type}(x:Nat->Value)(cf:Y.CF α)(L:Y.LK α)(k:Nat)(m:Mem)
theorem iA(t:AF)(q:Y.ExK α):Y.codeF (Y.loopC c7 0) Tryz.prog kp 1 (Y.cfT Tryz.prog cf) L 52 k t m q=Y.opsF Xk Tryz.prog kp 1 (Y.cfT Tryz.prog cf) 52 Xk t m λt m=>q .normal t m:=by kernel_rfl
theorem iB(t:AF)(q:Y.ExK α):Y.codeF (Y.loopC c7 1) Tryz.prog kp 1 (Y.cfT Tryz.prog cf) L 52 k t m q=Y.opsF Xl Tryz.prog kp 1 (Y.cfT Tryz.prog cf) 52 Xl t m λt m=>q .normal t m:=by kernel_rfl
theorem iC(t:AF)(q:Y.ExK α):Y.codeF (Y.loopC c7 2) Tryz.prog kp 1 (Y.cfT Tryz.prog cf) L 52 k t m q=Y.opsF iD Tryz.prog kp 1 (Y.cfT Tryz.prog cf) 52 iD t m λt m=>q .normal t m:=by kernel_rfl
theorem Zs(t:AF)(q:Y.ExK α):Y.codeF (Y.loopC c7 4) Tryz.prog kp 1 (Y.cfT Tryz.prog cf) L 52 k t m q=Y.opsF JI Tryz.prog kp 1 (Y.cfT Tryz.prog cf) 52 JI t m λt m=>q .normal t m:=by kernel_rfl
theorem iE(t:AF)(q:Y.ExK α):Y.codeF (Y.loopC Zt 0) Tryz.prog kp 1 (Y.cfT Tryz.prog cf) L 52 k t m q=Y.opsF Xm Tryz.prog kp 1 (Y.cfT Tryz.prog cf) 52 Xm t m λt m=>q .normal t m:=by kernel_rfl
theorem iF(t:AF)(q:Y.ExK α):Y.codeF (Y.loopC Zt 1) Tryz.prog kp 1 (Y.cfT Tryz.prog cf) L 52 k t m q=Y.opsF OY Tryz.prog kp 1 (Y.cfT Tryz.prog cf) 52 OY t m λt m=>q .normal t m:=by kernel_rfl
theorem iG(b:Nat)(w3 w9 w10 w11 u:Value)(q:AF->Mem->Option α):Y.opsF (List.drop 3 Xk) Tryz.prog kp 1 (Y.cfT Tryz.prog cf) 52 Xk (AB 52 (up x [(3,w3),(5, .pointer (some ⟨b,0,none⟩)),(9,w9),(10,w10),(11,w11),(14,u)])) m q=
 Y.storeF Tryz.prog m 55 u (.pointer (some ⟨b,0,none⟩)) λm'=>q (AB 52 (up (up x [(14,u)]) [(3,w3),(5, .pointer (some ⟨b,0,none⟩)),(9,w9),(10,w10),(11,w11)])) m':=by kernel_rfl
theorem iH(b:Nat)(w3 w5 w9 w10 w11 u:Value)(q:AF->Mem->Option α):Y.opsF (List.drop 4 Xl) Tryz.prog kp 1 (Y.cfT Tryz.prog cf) 52 Xl (AB 52 (up x [(3,w3),(5,w5),(6, .pointer (some ⟨b,0,none⟩)),(9,w9),(10,w10),(11,w11),(17,u)])) m q=
 Y.storeF Tryz.prog m 50 u (.pointer (some ⟨b,0,none⟩)) λm'=>q (AB 52 (up (up x [(17,u)]) [(3,w3),(5,w5),(6, .pointer (some ⟨b,0,none⟩)),(9,w9),(10,w10),(11,w11)])) m':=by kernel_rfl
theorem iI(b:Nat)(w3 w6 w9 w10 w11 w19 w20 w21 u:Value)(q:AF->Mem->Option α):Y.opsF (List.drop 3 Xm) Tryz.prog kp 1 (Y.cfT Tryz.prog cf) 52 Xm (AB 52 (up x [(3,w3),(6,w6),(8, .pointer (some ⟨b,0,none⟩)),(9,w9),(10,w10),(11,w11),(19,w19),(20,w20),(21,w21),(24,u)])) m q=
 Y.storeF Tryz.prog m 57 u (.pointer (some ⟨b,0,none⟩)) λm'=>q (AB 52 (up (up x [(24,u)]) [(3,w3),(6,w6),(8, .pointer (some ⟨b,0,none⟩)),(9,w9),(10,w10),(11,w11),(19,w19),(20,w20),(21,w21)])) m':=by kernel_rfl
theorem iJ(b:Nat)(w3 w9 w10 w11 w19 w20 w21 u v:Value)(q:AF->Mem->Option α):Y.opsF (List.drop 18 OY) Tryz.prog kp 1 (Y.cfT Tryz.prog cf) 52 OY (AB 52 (up x [(3,w3),(6, .pointer (some ⟨b,0,none⟩)),(9,w9),(10,w10),(11,w11),(19,w19),(20,w20),(21,w21),(26,u),(42,v)])) m q=
 Y.appendF Tryz.prog m 48 48 u v λa m'=>Y.storeF Tryz.prog m' 48 a (.pointer (some ⟨b,0,none⟩)) λm''=>q (AB 52 (up (up x [(26,u),(42,v),(43,a),(44, .pointer (some ⟨b,0,none⟩))]) [(3,w3),(6, .pointer (some ⟨b,0,none⟩)),(9,w9),(10,w10),(11,w11),(19,w19),(20,w20),(21,w21)])) m'':=by kernel_rfl
theorem Zu(w9 w10 w11 u v:Value)(q:AF->Mem->Option α):Y.opsF (List.drop 3 JI) Tryz.prog kp 1 (Y.cfT Tryz.prog cf) 52 JI (AB 52 (up x [(9,w9),(10,w10),(11,w11),(46,u),(48,v)])) m q=
 Y.appendF Tryz.prog m 36 36 u v λa m'=>q (AB 52 (up (up x [(46,u),(48,v),(49,a)]) [(3,a),(9,w9),(10,w10),(11,w11)])) m':=by kernel_rfl
theorem iK(w3 w6 w9 w10 w11 w19:Value)(q:Y.ExK α):Y.codeF (BK Tryz.f8 1) Tryz.prog kp 1 (Y.cfT Tryz.prog cf) L 52 k (AB 52 (up x [(3,w3),(6,w6),(9,w9),(10,w10),(11,w11),(19,w19),(20, .int .i64 (0:Nat)),(21, .int .i64 (0:Int))])) m q=
 q (.exit 2) (AB 52 (up (up x [(22, .bool false)]) [(3,w3),(6,w6),(9,w9),(10,w10),(11,w11),(19,w19),(20, .int .i64 (0:Nat)),(21, .int .i64 (0:Int))])) m:=by kernel_rfl
theorem iL(w3 w9:Value)(q:Y.ExK α):Y.codeF (BK Tryz.f8 0) Tryz.prog kp 1 (Y.cfT Tryz.prog cf) L 52 k (AB 52 (up x [(3,w3),(9,w9),(10, .int .i64 (0:Nat)),(11, .int .i64 (0:Int))])) m q=
 q (.exit 0) (AB 52 (up (up x [(12, .bool false)]) [(3,w3),(9,w9),(10, .int .i64 (0:Nat)),(11, .int .i64 (0:Int))])) m:=by kernel_rfl
end
theorem lc7:Y.loopC c7 3=BK Tryz.f8 1:=by kernel_rfl
theorem Hp.learn{M:Mem}{K:CR}{c:Nat}{x:BH}(h:Hp M K [])(hc:c<M.size)(hg:M.get c=x)(hk:K c=none):Hp M (EL K c x) []/\∀j y,K j=some y->EL K c x j=some y:=by
 obtain⟨ht,hK,F,q1,q2,q3⟩:=h
 cases q1
 refine⟨⟨ht,λj y hj=>?_,[], .nil,List.nodup_nil,λx hx=>by simp at hx⟩,λj y hj=>?_⟩
 ·by_cases e:j=c
  ·subst e;rw[BP]at hj;cases hj;exact⟨hc,hg⟩
  ·rw[C6 e]at hj;exact hK j y hj
 ·rw[C6 (by rintro rfl;rw[hk]at hj;cases hj)];exact hj
def xO(ve:Int)(ts:List A8):Bx:=⟨[],[.int .u32 ve],7,ts.length,ts.flatMap AQ⟩
theorem iM(ve:Int)(ts:List A8)(t:A8):({xO ve ts with n:=(xO ve ts).n+1,c:=(xO ve ts).c++AQ t}:Bx)=xO ve (ts++ [t]):=by simp[xO]
section
variable{K:CR}{M:Mem}{o:CX}{k:Nat}
theorem On{ts:List A8}{rest:List Value}{own:Bool}{ve:Int}{tb tc yb rb rn rc i on:Nat}{tp rp:Option Nat}{oa:Option Addr}(hn:ts.length*56<=140737488355328)(htb:K tb=some (.cells own (ts.flatMap AQ++rest))):
  ∀(d j:Nat),ts.length=j+d->∀(jj:Nat) (M:Mem),d+1<=jj->Hp M K [(yb,xO ve (ts.take j))]->
  ∃M',(∀x,AD 52 [(3, .slice oa on on),(6, .pointer (some ⟨yb,0,none⟩)),(9, .slice (some ⟨rb,0,rp⟩) rn rc),(10, .int .i64 (rn:Int)),(11, .int .i64 (i:Int)),(19, .slice (some ⟨tb,0,tp⟩) ts.length tc),(20, .int .i64 (ts.length:Int)),(21, .int .i64 (ts.length:Int))] (.exit 2) M' (BM (AJ Tryz.prog kp 1 (AL Tryz.prog kp 1 o k) (AY Tryz.prog kp 1 (AL Tryz.prog kp 1 o k) 52) 52 k (BK Tryz.f8 1)) jj (AB 52 (up x [(3, .slice oa on on),(6, .pointer (some ⟨yb,0,none⟩)),(9, .slice (some ⟨rb,0,rp⟩) rn rc),(10, .int .i64 (rn:Int)),(11, .int .i64 (i:Int)),(19, .slice (some ⟨tb,0,tp⟩) ts.length tc),(20, .int .i64 (ts.length:Int)),(21, .int .i64 (j:Int))])) M))/\Hp M' K [(yb,xO ve ts)]
 |0,j,hj,jj,M,hjj,h=>by
  obtain⟨jj,rfl⟩:∃j',jj=j'+1:=⟨jj - 1,by omega⟩;obtain rfl:j=ts.length:=by omega
  rw[List.take_length]at h;refine⟨M,λx=>AD.stop (AD.turn ?_) (by simp),h⟩;refine AD.via (BZ [8,9] Tryz.prog kp 1 _ (Y.lpOf Tryz.prog kp 1 (AL Tryz.prog kp 1 o k) 52) (λ_ _ _ _ _ _ _=>rfl) 52 k (BK Tryz.f8 1) (by kernel_rfl) _ M _) ?_;refine AD.via (Zv ..) ?_;rw[Gi (by omega),BI];exact AD.here _
 |d+1,j,hj,jj,M,hjj,h=>by
  obtain⟨jj,rfl⟩:∃j',jj=j'+1:=⟨jj - 1,by omega⟩;have hlt:j<ts.length:=by omega
  obtain⟨t,ht⟩:∃t,ts[j]?=some t:=⟨_,List.getElem?_eq_getElem hlt⟩;have htk:ts.take (j+1)=ts.take j++ [t]:=by rw[List.take_add_one,ht];rfl
  have gb:=h.get htb;obtain⟨M1,hM1⟩:∃M1,(M.push (.cells true [(.bool false),(.int .i64 (0:Int)),(.int .i64 (0:Int)),(.int .i64 (0:Int)),(.int .u64 (0:Int)),(.int .u64 (0:Int)),(.int .u64 (0:Int))])).set M.size (.cells true (AQ t))=M1:=⟨_,rfl⟩;have x1:Ext M M1:=hM1▸Ext.fresh;have gz:M1.get M.size= .cells true (AQ t):=by rw[←hM1];exact Mem.get_set_same _ _ _
  have hst:By Tryz.prog (M.push (.cells true [(.bool false),(.int .i64 (0:Int)),(.int .i64 (0:Int)),(.int .i64 (0:Int)),(.int .u64 (0:Int)),(.int .u64 (0:Int)),(.int .u64 (0:Int))])) 57 (.agg ⟨AQ t⟩) (.pointer (some ⟨M.size,0,none⟩))=some M1:=by
   rw[C4 (n:=7) xB rfl (Mem.get_push_same _ _) (by simp) rfl,←hM1];rfl
  have x2:Ext M (M1.push (.cells true (AQ t))):=x1.trans (Ext.push _ _);have hlj:(ts.take j).length=j:=by rw[List.length_take];omega
  obtain⟨a,gm,happ⟩:=h.append uA wy fV (show(7:Nat)≠0 by decide) wz (by decide) xA (by show((ts.take j).length+1)*56<=_/\(ts.take j).length+1<=_;omega);obtain⟨a',M7,M8,p1,p2,h8,_,_⟩:=happ _ M1.size true (AQ t) x2 (Mem.get_push_same _ _) rfl rfl;rw[iM,←htk]at h8;have gy:M1.get yb= .cells true [.slice a (ts.take j).length (ts.take j).length, .int .u32 ve]:=(x1.get yb h.set.1).trans gm;obtain⟨M3,h3,h4⟩:=On (rb:=rb) (rn:=rn) (rc:=rc) (i:=i) (on:=on) (tp:=tp) (rp:=rp) (oa:=oa) (tc:=tc) hn htb d (j+1) (by omega) jj M8 (by omega) h8;refine⟨M3,λx=>AD.next (AD.turn ?_) h3,h4⟩;refine AD.via (BZ [8,9] Tryz.prog kp 1 _ (Y.lpOf Tryz.prog kp 1 (AL Tryz.prog kp 1 o k) 52) (λ_ _ _ _ _ _ _=>rfl) 52 k (BK Tryz.f8 1) (by kernel_rfl) _ M _) ?_;refine AD.via (Zv ..) ?_;rw[EU hlt,AI];refine AD.via (BG _ _ _ (by kernel_rfl) _ _ _ _) ?_;refine AD.via (iE ..) ?_;refine AD.via (Bz 3 ..) ?_;refine AD.via (oi ..) ?_;rw[EI,Fj hlt,AI,gb,AT,Cw DO hlt,AI,Cj DO ht];refine AD.via (iI ..) ?_;rw[Y.storeF_eq,hst,Y.ob_some];refine AD.via (om ..) ?_;refine AD.via (BG _ _ _ (by kernel_rfl) _ _ _ _) ?_;refine AD.via (iF ..) ?_;refine AD.via (Bz 17 ..) ?_;refine AD.via (oo ..) ?_;rw[gy,AT,show Y.nthL [Value.slice a (ts.take j).length (ts.take j).length, .int .u32 ve] 0=some (.slice a (ts.take j).length (ts.take j).length)from rfl,BO,Dq];simp only[gz,AT,tn0,T5,T6,T7,T8,T9,Ta,BO,BF,HZ,CN,AI];refine AD.via (Bz 1 ..) ?_;refine AD.via (iN ..) ?_;rw[show List.drop 1 (List.drop 17 OY)=List.drop 18 OY by rw[List.drop_drop]];refine AD.via (iJ ..) ?_;rw[Y.appendF_eq,show CP Tryz.prog (M1.push (.cells true [.bool t.neg, .int .i64 t.kind, .int .i64 t.pos, .int .i64 t.size, .int .u64 t.mask, .int .u64 t.lo, .int .u64 t.hi])) 48 48 (.slice a (ts.take j).length (ts.take j).length) (.slice (some ⟨M1.size,0,none⟩) 1 1)=_ from p1,Kr,Y.storeF_eq,show By Tryz.prog M7 48 _ (.pointer (some ⟨yb,0,none⟩))=_ from p2,Y.ob_some];refine AD.via (oq ..) ?_;rw[JU (by omega)];exact AD.here _
theorem Zw{ts:List A8}{v:Value}{ve:Int}{yb rb rn rc i on:Nat}{rp:Option Nat}{oa:Option Addr}(hk:ts.length+2<=k)(hn:ts.length*56<=140737488355328)(hv:CS K v ts)(h:Hp M K [(yb,xO ve [])]):
  ∃ta tc M',v= .slice ta ts.length tc/\(∀x,AD 52 [(3, .slice oa on on),(6, .pointer (some ⟨yb,0,none⟩)),(9, .slice (some ⟨rb,0,rp⟩) rn rc),(10, .int .i64 (rn:Int)),(11, .int .i64 (i:Int)),(19, .slice ta ts.length tc),(20, .int .i64 (ts.length:Int)),(21, .int .i64 (ts.length:Int))] (.exit 2) M' (BM (AJ Tryz.prog kp 1 (AL Tryz.prog kp 1 o k) (AY Tryz.prog kp 1 (AL Tryz.prog kp 1 o k) 52) 52 k (BK Tryz.f8 1)) k (AB 52 (up x [(3, .slice oa on on),(6, .pointer (some ⟨yb,0,none⟩)),(9, .slice (some ⟨rb,0,rp⟩) rn rc),(10, .int .i64 (rn:Int)),(11, .int .i64 (i:Int)),(19, .slice ta ts.length tc),(20, .int .i64 (ts.length:Int)),(21, .int .i64 (0:Int))])) M))/\Hp M' K [(yb,xO ve ts)]:=by
 obtain⟨ta,tc,rfl,hv⟩:=hv
 by_cases e:ts= []
 ·subst e;obtain⟨k,rfl⟩:∃k',k=k'+1:=⟨k - 1,by omega⟩;exact⟨ta,tc,M,rfl,λx=>AD.stop (AD.turn (AD.via (iK ..) (AD.here _))) (by simp),h⟩
 ·obtain⟨tb,tp,own,rest,rfl,htb⟩:=hv e;obtain⟨M',h1,h2⟩:=On (o:=o) (rb:=rb) (rn:=rn) (rc:=rc) (i:=i) (on:=on) (tp:=tp) (rp:=rp) (oa:=oa) (tc:=tc) hn htb ts.length 0 (by omega) k M (by omega) h;exact⟨_,tc,M',rfl,h1,h2⟩
def RP(M:Mem)(K:CR)(vr:List (Value×BB))(oa:Option Addr):Prop:=(vr= []/\oa=none)\/∃c,oa=some ⟨c,0,some 2⟩/\c<M.size/\K c=none/\M.get c= .cells true (vr.flatMap B7)
def Kw(v:Value):Prop:=∃a n c,v= .slice a n c
theorem Kx:∀{vr:List (Value×BB)},(∀x∈vr,Kw x.1)->(vr.flatMap B7).all one=true
 | [],_=>rfl
 |x::vr,h=>by
  obtain⟨v,r⟩:=x;obtain⟨a,n,c,rfl⟩:=h (v,r) (List.mem_cons_self ..);show(B7 (.slice a n c,r)++vr.flatMap B7).all one=true;rw[List.all_append,Kx λx hx=>h x (List.mem_cons_of_mem _ hx)];rfl
theorem Zx{M2:Mem}{vr:List (Value×BB)}{oa:Option Addr}{nb:Nat}{own:Bool}{x:Value×BB}(hs:∀y∈vr,Kw y.1)(hx1:Kw x.1)(ho:RP M2 K vr oa)(hn:M2.get nb= .cells own (B7 x))(hl:vr.length*32+32<=140737488355328)(h:Hp M2 K []):
  ∃oa' M3,CP Tryz.prog M2 36 36 (.slice oa vr.length vr.length) (.slice (some ⟨nb,0,none⟩) 1 1)=some (.slice oa' (vr.length+1) (vr.length+1),M3)/\Hp M3 K []/\RP M3 K (vr++ [x]) oa':=by
 have hf:DV M2 2 1 (.slice (some ⟨nb,0,none⟩) 1 1)=some (B7 x):=IE (rest:= []) (by rw[List.append_nil];exact hn) rfl
 have h1:(B7 x).all one=true:=by
  have:=Kx (vr:= [x]) λy hy=>by obtain rfl:=List.mem_singleton.1 hy;exact hx1
  simpa using this
 rcases ho with⟨rfl,rfl⟩|⟨c,rfl,h2,h3,h4⟩
 ·refine⟨_,_,append_nil mb ZP (by decide) uB (by decide) uC (n:=1) rfl (by decide) (by decide) hf rfl h1,h.ext (Ext.push _ _), .inr ⟨_,rfl,?_,h.no (Nat.le_refl _),?_⟩⟩
  ·show M2.size<M2.size+1;omega
  ·rw[Mem.get_push_same];simp
 ·refine⟨_,_,NC mb ZP (by decide) uB (by decide) uC h4 (Fy CK vr) (Kx hs) (n:=1) rfl (by decide) (by omega) hf rfl h1,?_, .inr ⟨_,rfl,?_,h.no (Nat.le_refl _),?_⟩⟩
  ·exact(h.ext (Ext.push _ _)).free_set (by show c<M2.size+1;omega) h3
  ·show M2.size<M2.size+1;omega
  ·rw[Mem.get_set_ne _ (by omega),Mem.get_push_same,List.flatMap_append];simp
def V9(K:CR)(c:Nat):CR:=λj=>if j=c then none else K j
theorem Zy{K:CR}{c:Nat}:∀j x,V9 K c j=some x->K j=some x:=by
 intro j x h
 unfold V9 at h
 split at h
 ·cases h
 ·exact h
theorem RQ{K:CR}{c j:Nat}(h:j≠c):V9 K c j=K j:=if_neg h
theorem CS.slice{v:Value}{ts:List A8}(h:CS K v ts):Kw v:=by
 obtain⟨a,c,rfl,_⟩:=h
 exact⟨_,_,_,rfl⟩
theorem Zz{r:BB}{v:Value}{rest:List Value}{sr vr:List (Value×BB)}{own:Bool}{rb rc i:Nat}{rp:Option Nat}{oa:Option Addr}(hk:r.tests.length+80<=k)(hn:r.tests.length*56<=140737488355328)(hi32:i*32+32<=140737488355328)
  (hrb:K rb=some (.cells own (sr.flatMap B7++rest))) (hi:sr[i]?=some (v,r)) (hv:CS K v r.tests) (hs:∀y∈vr,Kw y.1) (hvl:vr.length=i) (h:Hp M K []) (ho:RP M K vr oa):
  ∃K' M' oa' v',(∀x,AD 52 [(3, .slice oa' (i+1) (i+1)),(9, .slice (some ⟨rb,0,rp⟩) sr.length rc),(10, .int .i64 (sr.length:Int)),(11, .int .i64 ((i+1:Nat):Int))] .normal M' (AJ Tryz.prog kp 1 (AL Tryz.prog kp 1 o k) (AY Tryz.prog kp 1 (AL Tryz.prog kp 1 o k) 52) 52 k (BK Tryz.f8 0) (AB 52 (up x [(3, .slice oa i i),(9, .slice (some ⟨rb,0,rp⟩) sr.length rc),(10, .int .i64 (sr.length:Int)),(11, .int .i64 (i:Int))])) M))/\
   (∀j x,K j=some x->K' j=some x)/\Hp M' K' []/\RP M' K' (vr++ [(v',r)]) oa'/\CS K' v' r.tests:=by
 have hlt:i<sr.length:=(List.getElem?_eq_some_iff.1 hi).1
 have gb:=h.get hrb
 have hvs:=hv.slice
 obtain⟨K1,hK1,hw1,hback⟩:∃K1,Hp M K1 []/\(∀j x,K j=some x->K1 j=some x)/\((vr= []/\oa=none/\K1=K)\/∃c,oa=some ⟨c,0,some 2⟩/\K c=none/\K1=EL K c (.cells true (vr.flatMap B7))):=by
  rcases ho with⟨q1,q2⟩|⟨c,q1,q2,q3,q4⟩
  ·exact⟨K,h,λ_ _ h=>h, .inl ⟨q1,q2,rfl⟩⟩
  ·have:=Hp.learn h q2 q4 q3;exact⟨_,this.1,this.2, .inr ⟨c,q1,q3,rfl⟩⟩
 obtain⟨M1,hM1⟩:∃M1,(M.push (.cells true [(.slice none 0 0),(.int Go.IntKind.u32 (0:Int))])).set M.size (.cells true (B7 (v,r)))=M1:=⟨_,rfl⟩
 have gx:M1.get M.size= .cells true (B7 (v,r)):=by rw[←hM1];exact Mem.get_set_same _ _ _
 have s1:M1.size=M.size+1:=by rw[←hM1];rfl
 have h1:Hp M1 K1 []:=hK1.ext (hM1▸Ext.fresh)
 have hst:By Tryz.prog (M.push (.cells true [(.slice none 0 0),(.int Go.IntKind.u32 (0:Int))])) 55 (.agg ⟨B7 (v,r)⟩) (.pointer (some ⟨M.size,0,none⟩))=some M1:=by
  obtain⟨ta,n,tc,rfl⟩:=hvs;rw[C4 (n:=2) ti rfl (Mem.get_push_same _ _) (by simp) rfl,←hM1];rfl
 have hx0:=h1.push [] [.int .u32 (0:Int)] 7
 obtain⟨_,_,_,⟨u,rfl⟩,gx0,hx1⟩:=hx0.set
 have hx1:=hx1 [] [.int .u32 r.verdict]
 obtain⟨M2,hM2⟩:∃M2,(M1.push (.cells true [(.slice none 0 0),(.int Go.IntKind.u32 (0:Int))])).set M1.size (.cells true [.slice none 0 0, .int .u32 r.verdict])=M2:=⟨_,rfl⟩
 have hu:u=none:=by
  have:(M1.push (.cells true ([]++Value.slice none 0 0:: [.int .u32 (0:Int)]))).get M1.size= .cells true ([]++Value.slice none 0 0:: [.int .u32 (0:Int)]):=Mem.get_push_same _ _;rw[this]at gx0;simp at gx0;exact gx0.symm
 subst hu
 have h2:Hp M2 K1 [(M1.size,xO r.verdict [])]:=hM2▸hx1
 have hst2:By Tryz.prog (M1.push (.cells true [(.slice none 0 0),(.int Go.IntKind.u32 (0:Int))])) 50 (.agg ⟨[.slice none 0 0, .int .u32 r.verdict]⟩) (.pointer (some ⟨M1.size,0,none⟩))=some M2:=by
  rw[C4 (n:=2) ZP rfl (Mem.get_push_same _ _) (by simp) rfl,←hM2];rfl
 have gx2:M2.get M.size= .cells true (B7 (v,r)):=by
  rw[←hM2,Mem.get_set_ne _ (by omega),Mem.get_push_ne _ (by omega)];exact gx
 obtain⟨ta,tc,M3,hve,hloop,h3⟩:=Zw (o:=o) (k:=k) (yb:=M1.size) (rb:=rb) (rn:=sr.length) (rc:=rc) (i:=i) (on:=i) (rp:=rp) (oa:=oa) (by omega) (by omega) (hv.mono hw1) h2
 obtain⟨K2,a,hw2,hK2y,hbuf,hyn,h4⟩:=h3.freeze
 have gy:M3.get M1.size= .cells true [.slice a r.tests.length r.tests.length, .int .u32 r.verdict]:=h4.get hK2y
 have h5:=h4.ext (Ext.push M3 (.cells true (B7 (.slice a r.tests.length r.tests.length,r))))
 have hsx:Kw (Value.slice a r.tests.length r.tests.length):=⟨_,_,_,rfl⟩
 obtain⟨K3,hK3,hw3,ho3,ht3⟩:∃K3,Hp (M3.push (.cells true (B7 (.slice a r.tests.length r.tests.length,r)))) K3 []/\(∀j x,K j=some x->K3 j=some x)/\RP (M3.push (.cells true (B7 (.slice a r.tests.length r.tests.length,r)))) K3 vr oa/\CS K3 (.slice a r.tests.length r.tests.length) r.tests:=by
  rcases hback with⟨q1,q2,rfl⟩|⟨c,q1,q2,rfl⟩
  ·refine⟨K2,h5,hw2, .inl ⟨q1,q2⟩,a,_,rfl,λh0=>?_⟩;obtain⟨c',e1,e2,_⟩:=hbuf (List.length_pos_iff.2 h0);exact⟨c',some 7,true,[],e1,by rw[e2,List.append_nil];rfl⟩
  ·have hc2:=hw2 c _ (BP ..);refine⟨V9 K2 c,h5.weak Zy,λj x hj=>?_, .inr ⟨c,q1,h5.lt hc2,if_pos rfl,h5.get hc2⟩,a,_,rfl,λh0=>?_⟩
   ·have hne:j≠c:=by rintro rfl;rw[q2]at hj;cases hj
    rw[RQ hne];exact hw2 j x (by rw[C6 hne];exact hj)
   ·obtain⟨c',e1,e2,e3⟩:=hbuf (List.length_pos_iff.2 h0);have hne:c'≠c:=by rintro rfl;rw[BP]at e3;cases e3
    exact⟨c',some 7,true,[],e1,by rw[RQ hne,e2,List.append_nil];rfl⟩
 obtain⟨oa',M4,hap,h6,ho6⟩:=Zx hs hsx ho3 (nb:=M3.size) (own:=true) (x:=(.slice a r.tests.length r.tests.length,r)) (Mem.get_push_same _ _) (by omega) hK3
 rw[hvl]at hap
 refine⟨K3,M4,oa', .slice a r.tests.length r.tests.length,λx=>AD.turn ?_,hw3,h6,ho6,ht3⟩
 refine AD.via (BZ [4,5,6,11] Tryz.prog kp 1 _ (Y.lpOf Tryz.prog kp 1 (AL Tryz.prog kp 1 o k) 52) (λ_ _ _ _ _ _ _=>rfl) 52 k (BK Tryz.f8 0) (by kernel_rfl) _ M _) ?_
 refine AD.via (aA ..) ?_
 rw[EU hlt,AI]
 refine AD.via (BG _ _ _ (by kernel_rfl) _ _ _ _) ?_
 refine AD.via (iA ..) ?_
 refine AD.via (Bz 3 ..) ?_
 refine AD.via (ou ..) ?_
 rw[EI,Fj hlt,AI,gb,AT,Cw CK hlt,AI,Cj CK hi]
 refine AD.via (iG ..) ?_
 rw[Y.storeF_eq,hst,Y.ob_some]
 refine AD.via (ov ..) ?_
 refine AD.via (BG _ _ _ (by kernel_rfl) _ _ _ _) ?_
 refine AD.via (iB ..) ?_
 refine AD.via (Bz 4 ..) ?_
 refine AD.via (ow ..) ?_
 rw[gx,AT,show Y.nthL (B7 (v,r)) 1=some (.int .u32 r.verdict)from rfl,BO,BF,CN,AI]
 refine AD.via (iH ..) ?_
 rw[Y.storeF_eq,hst2,Y.ob_some]
 refine AD.via (ox ..) ?_
 refine AD.via (BG _ _ _ (by kernel_rfl) _ _ _ _) ?_
 refine AD.via (iC ..) ?_
 refine AD.via (oy ..) ?_
 rw[gx2,AT,show Y.nthL (B7 (v,r)) 0=some v from rfl,BO,hve,Dq]
 refine AD.via (oz ..) ?_
 refine AD.via (E5 _ _ (by kernel_rfl) _ _ _ _) ?_
 rw[Y.lpOf_eq,lc7]
 simp only[Int.ofNat_eq_natCast]
 refine AD.loop (hloop _) λx'=>?_
 refine AD.via (pA ..) ?_
 refine AD.via (BG _ _ _ (by kernel_rfl) _ _ _ _) ?_
 refine AD.via (Zs ..) ?_
 refine AD.via (Bz 2 ..) ?_
 refine AD.via (iO ..) ?_
 rw[gy,AT,show Nat.ble 2 (Y.lenLF [Value.slice a r.tests.length r.tests.length, .int .u32 r.verdict])=true from rfl,AI,show Y.subL [Value.slice a r.tests.length r.tests.length, .int .u32 r.verdict] 0 2= [Value.slice a r.tests.length r.tests.length, .int .u32 r.verdict]from rfl]
 refine AD.via (Bz 1 ..) ?_
 refine AD.via (aB ..) ?_
 rw[show List.drop 1 (List.drop 2 JI)=List.drop 3 JI by rw[List.drop_drop]]
 refine AD.via (Zu ..) ?_
 rw[Y.appendF_eq,show CP Tryz.prog (M3.push (.cells true [.slice a r.tests.length r.tests.length, .int .u32 r.verdict])) 36 36 (.slice oa i i) (.slice (some ⟨M3.size,0,none⟩) 1 1)=_ from hap,Kr]
 refine AD.via (pB ..) ?_
 rw[JU (by omega)]
 exact AD.here _
theorem RR{rest:List Value}{sr:List (Value×BB)}{own:Bool}{rb rc:Nat}{rp:Option Nat}(hk:∀x∈sr,x.2.tests.length+80<=k)(hsr:sr.length*32<=140737488355328)(hn:∀x∈sr,x.2.tests.length*56<=140737488355328):
  ∀(d i:Nat),sr.length=i+d->∀(jj:Nat) (K:CR) (M:Mem) (vr:List (Value×BB)) (oa:Option Addr),d+1<=jj->K rb=some (.cells own (sr.flatMap B7++rest))->(∀x∈sr,CS K x.1 x.2.tests)->(∀x∈vr,CS K x.1 x.2.tests)->vr.map (·.2)=(sr.take i).map (·.2)->Hp M K []->RP M K vr oa->
  ∃K' M' oa' vr',(∀x,AD 52 [(3, .slice oa' sr.length sr.length),(9, .slice (some ⟨rb,0,rp⟩) sr.length rc),(10, .int .i64 (sr.length:Int)),(11, .int .i64 (sr.length:Int))] (.exit 0) M' (BM (AJ Tryz.prog kp 1 (AL Tryz.prog kp 1 o k) (AY Tryz.prog kp 1 (AL Tryz.prog kp 1 o k) 52) 52 k (BK Tryz.f8 0)) jj (AB 52 (up x [(3, .slice oa i i),(9, .slice (some ⟨rb,0,rp⟩) sr.length rc),(10, .int .i64 (sr.length:Int)),(11, .int .i64 (i:Int))])) M))/\(∀j x,K j=some x->K' j=some x)/\Hp M' K' []/\RP M' K' vr' oa'/\(∀x∈vr',CS K' x.1 x.2.tests)/\vr'.map (·.2)=sr.map (·.2)
 |0,i,hi,jj,K,M,vr,oa,hjj,hrb,hv,hvr,hm,h,ho=>by
  obtain⟨jj,rfl⟩:∃j',jj=j'+1:=⟨jj - 1,by omega⟩;obtain rfl:i=sr.length:=by omega
  refine⟨K,M,oa,vr,λx=>AD.stop (AD.turn ?_) (by simp),λ_ _ h=>h,h,ho,hvr,by rw[hm,List.take_length]⟩;refine AD.via (BZ [4,5,6,11] Tryz.prog kp 1 _ (Y.lpOf Tryz.prog kp 1 (AL Tryz.prog kp 1 o k) 52) (λ_ _ _ _ _ _ _=>rfl) 52 k (BK Tryz.f8 0) (by kernel_rfl) _ M _) ?_;refine AD.via (aA ..) ?_;rw[Gi (by omega),BI];exact AD.here _
 |d+1,i,hi,jj,K,M,vr,oa,hjj,hrb,hv,hvr,hm,h,ho=>by
  obtain⟨jj,rfl⟩:∃j',jj=j'+1:=⟨jj - 1,by omega⟩;have hlt:i<sr.length:=by omega
  obtain⟨p,hp⟩:∃p,sr[i]?=some p:=⟨_,List.getElem?_eq_getElem hlt⟩;obtain⟨v,r⟩:=p;have hpm:(v,r)∈sr:=List.mem_of_getElem? hp
  have hvl:vr.length=i:=by
   have:=congrArg List.length hm;rw[List.length_map,List.length_map,List.length_take]at this;omega
  obtain⟨K1,M1,oa1,v1,h1,hw1,hp1,ho1,ht1⟩:=Zz (o:=o) (k:=k) (rc:=rc) (rp:=rp) (hk _ hpm) (hn _ hpm) (by omega) hrb hp (hv _ hpm) (λy hy=>(hvr y hy).slice) hvl h ho
  obtain⟨K2,M2,oa2,vr2,h2,hw2,hp2,ho2,ht2,hm2⟩:=RR (rc:=rc) (rp:=rp) hk hsr hn d (i+1) (by omega) jj K1 M1 (vr++ [(v1,r)]) oa1 (by omega) (hw1 _ _ hrb) (λx hx=>(hv x hx).mono hw1) (λx hx=>by
   rcases List.mem_append.1 hx with hx|hx
   ·exact(hvr x hx).mono hw1
   ·obtain rfl:=List.mem_singleton.1 hx;exact ht1) (by rw[List.map_append,hm,List.take_add_one,hp,Option.toList_some,List.map_append];rfl) hp1 ho1
  exact⟨K2,M2,oa2,vr2,λx=>AD.next (h1 x) h2,λj x hj=>hw2 j x (hw1 j x hj),hp2,ho2,ht2,hm2⟩
theorem iP{rs:List BB}{v:Value}(hO:Gy o)(hk:rs.length+100<=k)(hkt:∀r∈rs,r.tests.length+100<=k)(hl:rs.length*32<=140737488355328)(hn:∀r∈rs,r.tests.length*56<=140737488355328)(hv:DD K v rs)(h:Hp M K []):
  ∃K' v' M',AL Tryz.prog kp 1 o k 8 [v] M=some (v',M')/\(∀j x,K j=some x->K' j=some x)/\Hp M' K' []/\DD K' v' rs:=by
 obtain⟨k,rfl⟩:∃k',k=k'+1:=⟨k - 1,by omega⟩
 obtain⟨ra,rc,rfl,hv⟩:=hv
 obtain⟨K1,M1,oa,vr,hloop,hw1,h1,ho1,ht1,hm1⟩:∃K' M' oa' vr',(∀x,AD 52 [(3, .slice oa' rs.length rs.length),(9, .slice ra rs.length rc),(10, .int .i64 (rs.length:Int)),(11, .int .i64 (rs.length:Int))] (.exit 0) M' (BM (AJ Tryz.prog kp 1 (AL Tryz.prog kp 1 o k) (AY Tryz.prog kp 1 (AL Tryz.prog kp 1 o k) 52) 52 k (BK Tryz.f8 0)) k (AB 52 (up x [(3, .slice none 0 0),(9, .slice ra rs.length rc),(10, .int .i64 (rs.length:Int)),(11, .int .i64 (0:Int))])) M))/\(∀j x,K j=some x->K' j=some x)/\Hp M' K' []/\RP M' K' vr' oa'/\(∀x∈vr',CS K' x.1 x.2.tests)/\vr'.map (·.2)=rs:=by
  by_cases e:rs= []
  ·subst e;obtain⟨k,rfl⟩:∃k',k=k'+1:=⟨k - 1,by omega⟩;exact⟨K,M,none,[],λx=>AD.stop (AD.turn (AD.via (iL ..) (AD.here _))) (by simp),λ_ _ h=>h,h, .inl ⟨rfl,rfl⟩,λx hx=>by simp at hx,rfl⟩
  ·obtain⟨rb,rp,own,rest,sr,rfl,hrs,hrb,hvt⟩:=hv e;have hl2:rs.length=sr.length:=by rw[←hrs,List.length_map]
   obtain⟨K',M',oa',vr',q1,q2,q3,q4,q5,q6⟩:=RR (o:=o) (k:=k) (rc:=rc) (rp:=rp) (λx hx=>by have:=hkt _ (by rw[←hrs];exact List.mem_map.2 ⟨x,hx,rfl⟩);omega) (by omega) (λx hx=>hn _ (by rw[←hrs];exact List.mem_map.2 ⟨x,hx,rfl⟩)) sr.length 0 (by omega) k K M [] none (by omega) hrb hvt (λx hx=>by simp at hx) (by simp) h (.inl ⟨rfl,rfl⟩);rw[hl2];exact⟨K',M',oa',vr',q1,q2,q3,q4,q5,q6.trans hrs⟩
 have hvl:vr.length=rs.length:=by rw[←hm1,List.length_map]
 have hrun:AL Tryz.prog kp 1 o (k+1) 8 [.slice ra rs.length rc] M=some (.slice oa rs.length rs.length,M1):=by
  refine CI 52 (hO.off 8 (by decide) _ _) at7 bd7 n7 ?_ tz;refine Eq.trans (aC ..) ?_;rw[Y.lpOf_eq,Y.loopC_body];simp only[Int.ofNat_eq_natCast];refine IB (hloop _) λx'=>?_;exact Xn ..
 rcases ho1 with⟨q1,q2⟩|⟨c,q1,q2,q3,q4⟩
 ·have e:rs= []:=by rw[←hm1,q1];rfl
  exact⟨K1,_,M1,hrun,hw1,h1,oa,_,rfl,λhne=>absurd e hne⟩
 ·have hlearn:=Hp.learn h1 q2 q4 q3;refine⟨EL K1 c (.cells true (vr.flatMap B7)),_,M1,hrun,λj x hj=>hlearn.2 _ _ (hw1 j x hj),hlearn.1,oa,_,rfl,λhne=>⟨c,some 2,true,[],vr,q1,hm1,by rw[BP,List.append_nil],λx hx=>(ht1 x hx).mono hlearn.2⟩⟩
end
end
end Go.Proofs.YtgjflcgmieiafaaGreatDoor
