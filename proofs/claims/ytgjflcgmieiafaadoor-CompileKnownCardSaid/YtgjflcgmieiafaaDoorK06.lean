/- CompileKnown answers true: the document's examples of tables, their codes, sizes, faults and verdicts are as it says. Conditions: those of the given row and its card (the variable insn.sizes is laid as its initialiser says). -/
import Derived.Test.YtgjflcgmieiafaaDoorK05
import Derived.Shelf.Abstract
import Derived.Test.YtgjflcgmieiafaaDoorK04
import Derived.Test.YtgjflcgmieiafaaDoorK03
import Derived.Carry
import Derived.ChangeArms
import Derived.OpenShut
import Derived.ChangeShapes
set_option linter.all false
set_option linter.unusedVariables false
set_option linter.unusedSimpArgs false
namespace Go.Proofs.YtgjflcgmieiafaaDoor
open Go Go.DI Go.DI.Kit Go.Proofs Go.Cmp Go.RowKit
noncomputable section
abbrev Pl(l:List B1):={p:Nat // p∈AW l}
def Rc(l:List B1)(x:Pl l):Array Value:= #[.int .i64 (x.1:Int)]
def oh(B0:Nat)(ι:Ren)(l:List B1)(A B:World):Prop:=Rel B0 1 ι (HQ (AD l) l.length) A->Rel B0 1 ι (HQ (AD l) l.length) B
theorem fB{l:List B1}(hS:DK l){p:Nat}{x:B1}(hp:p∈AW l)(hx:l[p]?=some x):(QJ x=1/\Rh x 1)\/(QJ x=2/\Rh x 2):=by
 rcases hS.found p hp with⟨y,hy,h1⟩|⟨y,o,q,hq,hy,h1,_,_,_⟩|⟨n,h1,h2⟩
 ·rw[hx]at h1;cases h1;left;cases hy with
  |movI hd=>exact⟨rfl,(VH hd).pl⟩
  |andI hd=>exact⟨rfl,(VI hd).pl⟩
  |movR hd hs=>exact⟨rfl,(VJ hd hs).pl⟩
  |andR hd hs=>exact⟨rfl,(VK hd hs).pl⟩
  |low=>exact⟨rfl,Zk.pl⟩
  |exit=>exact⟨rfl,VL.pl⟩
  |load hz hd hs=>
   rcases hz with rfl|rfl|rfl|rfl
   ·exact⟨rfl,(RZ hd hs).pl⟩
   ·exact⟨rfl,(R1 hd hs).pl⟩
   ·exact⟨rfl,(R2 hd hs).pl⟩
   ·exact⟨rfl,(R4 hd hs).pl⟩
  |swap hz hz1=>
   rcases hz with rfl|rfl|rfl|rfl
   ·omega
   ·exact⟨rfl,R6.pl⟩
   ·exact⟨rfl,R7.pl⟩
   ·exact⟨rfl,R8.pl⟩
 ·rw[hx]at h1;cases h1;left;cases hy with
  |jif ho hd=>
   rcases ho with rfl|rfl|rfl|rfl
   ·exact⟨rfl,(VM hd).pl⟩
   ·exact⟨rfl,(VN hd).pl⟩
   ·exact⟨rfl,(R9 hd).pl⟩
   ·exact⟨rfl,(VO hd).pl⟩
  |jifR ho=>
   rcases ho with rfl|rfl
   ·exact⟨rfl,OV.pl⟩
   ·exact⟨rfl,Ra.pl⟩
  |goto=>exact⟨rfl,VP.pl⟩
 ·rw[hx]at h1;cases h1;exact .inr ⟨rfl,NF.2.1⟩
theorem fC(L:List Value)(n:Nat):∀b,((HQ L n).get b).own=false:=by
 intro b
 have e:(HQ L n).get b=if b<1 then(mG gl).get b else(match [BI.cells false L,BI.cells false [AX 1 n]][b - 1]? with|some x=>x|none=>(mG gl).get b):=CV _ (mG gl) b
 have hG:∀b,((mG gl).get b).own=false:=λb=>by
  by_cases h:b=0
  ·subst h;rw[mG_get];rfl
  ·rw[mG_top gl b (by rw[mG_size];omega)];rfl
 rw[e]
 by_cases h:b<1
 ·rw[if_pos h];exact hG b
 ·rw[if_neg h];rcases hb:b - 1 with _|_|j
  ·rfl
  ·rfl
  ·exact hG b
theorem Hm{B0:Nat}{ι:Ren}{L:List Value}{n:Nat}{x:List Value}{lt:Bool}{pl:Int}{c:Code}{d lp:Nat}{kn:List (Nat×Value)}{y:Nat->Value}{p:Int}{u:Value}{qs:List Prop}{W:World}{a:Act}{dd:Nat}
  (h:Rn (oc x lt pl c d (AA 20 (up y kn)) (HQ L n)) ((.normal,yV lp,B4 2 0, .int .i64 p,u,HQ L n),qs)) (hq:∀q∈qs,q)
  (hr:Rel B0 1 ι (HQ L n) W) (ht:BV ι 20 (AA 20 (up y kn)) a) {Q:Exit->Act->World->Prop}
  (hQ:∀a' W' t',BV ι 20 t' a'->t'.at 0=yV lp->t'.at 1=B4 2 0->t'.at 3= .int .i64 p->t'.at d=u->a'.defers=a.defers->Rel B0 1 ι (HQ L n) W'->W.grownBy W' none->Q .normal a' W'):c.wpIn Fence.wide dd Tryd.prog Q a W:=by
 obtain⟨e,t',m',a1,a2⟩:=H.codeO_H (H:=hI x lt pl) (o:=Pd) (P:=Tryd.prog) (K:=kp) (G:=1) (j:=20) (n:=20) (k:=20) (c:=c) (t:=AA 20 (up y kn)) (m:=HQ L n) (g:=λe t m=>(e,t.at 0,t.at 1,t.at 3,t.at d,m)) o7 lP h.1 h.2 hq
 have e1:e=_:=congrArg (λx=>x.1) a2
 have e2:t'.at 0=_:=congrArg (λx=>x.2.1) a2
 have e3:t'.at 1=_:=congrArg (λx=>x.2.2.1) a2
 have e4:t'.at 3=_:=congrArg (λx=>x.2.2.2.1) a2
 have e5:t'.at d=_:=congrArg (λx=>x.2.2.2.2.1) a2
 have e6:m'=_:=congrArg (λx=>x.2.2.2.2.2) a2
 simp only at e1 e2 e3 e4 e5 e6
 rw[e1,e6]at a1
 refine wpIn_wide.2 (Gv hK (aF B0) (Ha Br hK (aF B0) ey) c _ _ _ _ _ a1 ι W a Q hr ht (λb h1 h2=>absurd h2 (Nat.not_lt.2 h1)) λa' W' ha=>?_)
 obtain⟨ι',g1,g2,g3,g4⟩:=ha
 obtain rfl:=Yn g3
 exact hQ a' W' t' g1 e2 e3 e4 e5 g4 g2 (Ym (P:=Tryd.prog) g3 (fC L n))
def oi(n:Nat)(a:Act):Nat:=match a.tmps.getD 3 undef with| .int _ z=>n - z.toNat|_=>0
theorem aG{n:Nat}{a:Act}{k:IntKind}{p:Nat}(h:a.tmps.getD 3 undef= .int k (p:Int)):oi n a=n - p:=by unfold oi;rw[h];simp
def fD:Oper:={dst:=some 8,op:= .move (.tmp 0),type:=162,pos:= "shape.go:25",after:= #[],guard:=none}
def om:Oper:={dst:=some 9,op:= .move (.tmp 3),type:=3,pos:= "shape.go:25",after:= #[],guard:=none}
def lS:Oper:={dst:=some 10,op:= .call {callee:= .value (.tmp 8),args:= #[.tmp 9],argTypes:= #[3]},type:=4,pos:= "shape.go:25",after:= #[{on:=0,ground:= .data},{on:=1,ground:= .data}],guard:=none}
def lT:Oper:={dst:=some 11,op:= .unOp .not 4 (.tmp 10),type:=4,pos:= "shape.go:25",after:= #[{on:=2,ground:= .data}],guard:=none}
theorem oo:fA 2= #[fD,om,lS,lT]:=by kernel_rfl
theorem Ri{l:List B1}{k p:Nat}(hk:l.length<=p+k)(hp:p<l.length):∃k' x,k=k'+1/\l[p]?=some x/\Bg l k p=p::Bg l k' (p+QJ x):=by
 obtain⟨k',rfl⟩:∃k',k=k'+1:=⟨k - 1,by omega⟩
 obtain⟨x,hx⟩:∃x,l[p]?=some x:=⟨_,List.getElem?_eq_getElem hp⟩
 exact⟨k',x,rfl,hx,by simp only[Bg,hx]⟩
theorem TV{l:List B1}{k p:Nat}(hp:l.length<=p):Bg l k p= []:=by
 cases k with
 |zero=>rfl
 |succ k=>simp only[Bg,List.getElem?_eq_none hp]
def oq{B0:Nat}{ι:Ren}{l:List B1}(lp:Nat)(J:List (Pl l)->World->Prop)(a:Act)(W:World):Prop:=
 ∃(pre:List (Pl l)) (p k:Nat) (y:Nat->Value),pre.map Subtype.val++Bg l k p=AW l/\l.length<=p+k/\p<=l.length+2/\J pre W/\Rel B0 1 ι (HQ (AD l) l.length) W/\BV ι 20 (AA 20 (up y (bR lp (p:Int)))) a/\a.defers= []
theorem JG{B0:Nat}{ι:Ren}{l:List B1}{w:World}{nn:Nat}(hr:Rel B0 1 ι (HQ (AD l) l.length) w){Lb:Go.DI.Loc}(hb:ι 2=some Lb)(hS:DK l):
  SeqStopsK Fence.wide nn Tryd.prog 77 #[.pointer (some ⟨Lb.block,Lb.base+0,none⟩)] (Rc l) (oh B0 ι l) (λxs=>xs.map Subtype.val=AW l) (λ_=>True) (AW l).length w:=by
 intro lp J Jx W hW hJ hJx hY h0
 have hrW:=OK hr hW
 have hm:=hS.most
 refine callsIn_of_wp eY eZ trivial ?_ rfl
 have hst:BV ι 20 (AA 20 (CM [yV lp,B4 2 0])) {tmps:=(#[.func (.yield lp) #[] #[]]++ #[.pointer (some ⟨Lb.block,Lb.base+0,none⟩)])++Array.replicate (Tryd.f77.ntmps - (#[.func (.yield lp) #[] #[]]++ #[.pointer (some ⟨Lb.block,Lb.base+0,none⟩)]:Array Value).size) undef,defers:= []}:=
  IJ (ι:=ι) (args:= [yV lp,B4 2 0]) (args':= [.func (.yield lp) #[] #[], .pointer (some ⟨Lb.block,Lb.base+0,none⟩)]) (nt:=20) (.cons (Mk ι lp) (.cons (.ptr 2 0 Lb hb) .nil))
 have e0:AA 20 (CM [yV lp,B4 2 0])=AA 20 (up (CM [yV lp,B4 2 0]) [(0,yV lp),(1,B4 2 0)]):=by rw[up_self _ _ (by intro q hq;simp only[List.mem_cons,List.not_mem_nil,or_false]at hq;rcases hq with rfl|rfl<;>rfl)]
 rw[e0]at hst
 rw[lO]
 refine wpIn_seq (Hm (od _ (AD l) l.length lp) A8 hrW hst λa1 W1 t1 ht1 k0 k1 k3 _ hd1 hr1 hg1=>?_)
 simp only[Exit.then]
 refine wpIn_block (wpIn_loop (oq (B0:=B0) (ι:=ι) (l:=l) lp J) (λa _=>oi l.length a) ?_ ?_)
 ·obtain⟨y,hy⟩:=ht1.full (bR lp ((0:Nat):Int)) (by
   intro q hq;simp only[bR,List.mem_cons,List.not_mem_nil,or_false]at hq;rcases hq with rfl|rfl|rfl
   ·exact k0
   ·exact k1
   ·exact k3)
  exact⟨[],0,l.length,y,rfl,by omega,by omega,hJ [] W W1 none h0 hg1 (λr e=>by cases e),hr1,hy,hd1⟩
 ·rintro a W ⟨pre,p,k,y,hpre,hk,hp2,hJp,hrp,htp,hdp⟩;have h3:a.tmps.getD 3 undef= .int .i64 (p:Int):=htp.int (by rw[FK];rfl);refine wpIn_seq (wpIn_seq ?_);by_cases hlt:p<l.length
  ·obtain⟨k',x,rfl,hx,hgo⟩:=Ri hk hlt;refine Hm (iB y (AD l) l.length lp (p:Int) true) (AB (by simp[CC,CA,CN];omega) A8) hrp htp λa1 W1 t1 ht1 k0 k1 k3 k7 hd1 hr1 hg1=>?_;simp only[Exit.then];have h7:a1.tmps.getD 7 undef= .bool true:=ht1.bool k7;refine wpIn_cond_true (show a1.eval (.tmp 7)= .bool true from h7) (wpIn_skip ?_);simp only[Exit.then];have hJ1:J pre W1:=hJ pre W W1 none hJp hg1 (λr e=>by cases e);have hmem:p∈AW l:=by rw[←hpre,hgo];simp
   have hN:pre.length< (AW l).length:=by
    rw[←hpre,hgo];simp
   obtain⟨fn,tmps,assign,body,hy,hR⟩:=hY pre ⟨p,hmem⟩ W1 hJ1 hN;refine wpIn_block (wpIn_seq (wpIn_seq (wpIn_region ?_)));have w0:a1.eval (.tmp 0)=yV lp:=ht1.yield k0;have w3:a1.eval (.tmp 3)= .int .i64 (p:Int):=ht1.int k3;rw[oo];show wpOpsIn Fence.wide nn Tryd.prog #[fD,om,lS,lT] _ [0,1,2,3] a1 W1;refine J6 (o:=fD) rfl rfl (run_move (x:= .tmp 0) rfl) ?_
   have ht2:BV ι 20 (t1.set 8 (yV lp)) (a1.put fD.dst (a1.eval (.tmp 0))):=by
    rw[w0];exact ht1.putD (n:=20) (dst:=some 8) rfl (Mk ι lp)
   have w3':(a1.put fD.dst (a1.eval (.tmp 0))).eval (.tmp 3)= .int .i64 (p:Int):=ht2.int (by rw[AE.at_set];exact k3);refine J6 (o:=om) rfl rfl (run_move (x:= .tmp 3) rfl) ?_
   have ht3:BV ι 20 ((t1.set 8 (yV lp)).set 9 (.int .i64 (p:Int))) ((a1.put fD.dst (a1.eval (.tmp 0))).put om.dst ((a1.put fD.dst (a1.eval (.tmp 0))).eval (.tmp 3))):=by
    rw[w3'];exact ht2.putD (n:=20) (dst:=some 9) rfl (.int _ _)
   obtain⟨a3,ha3⟩:∃a3,(a1.put fD.dst (a1.eval (.tmp 0))).put om.dst ((a1.put fD.dst (a1.eval (.tmp 0))).eval (.tmp 3))=a3:=⟨_,rfl⟩;have hd3:a3.defers= []:=by rw[←ha3];exact(put_defers _ _ _).trans ((put_defers _ _ _).trans (hd1.trans hdp))
   rw[ha3]at ht3 ⊢;have w8:a3.eval (.tmp 8)=yV lp:=ht3.yield (by rw[AE.at_set_ne _ (by decide),AE.at_set_same];rfl);have w9:a3.eval (.tmp 9)= .int .i64 (p:Int):=ht3.int (by rw[AE.at_set_same])
   have hargs:(#[Operand.tmp 9].map a3.eval)=Rc l ⟨p,hmem⟩:=by
    rw[show(#[Operand.tmp 9]).map a3.eval= #[a3.eval (.tmp 9)]from by simp,w9];rfl
   refine Sm (o:=lS) rfl rfl ((Qy (f:= .tmp 8) (args:= #[.tmp 9]) (tys:= #[3]) (l:=lp) rfl w8).trans (by rw[hargs];exact hy)) (hR.mono ?_)
   have ht4:∀b,BV ι 20 ((((t1.set 8 (yV lp)).set 9 (.int .i64 (p:Int))).set 10 (.bool b)).set 11 (.bool (!b))) ((a3.put lS.dst (.bool b)).put lT.dst (.bool (!b))):=λb=>
    (ht3.putD (n:=20) (dst:=some 10) rfl (.bool b)).putD (n:=20) (dst:=some 11) rfl (.bool (!b))
   have z4:∀(b:Bool) (d:Nat),d≠8->d≠9->d≠10->d≠11->AE.at ((((t1.set 8 (yV lp)).set 9 (.int .i64 (p:Int))).set 10 (.bool b)).set 11 (.bool (!b))) d=t1.at d:=λb d n8 n9 pJ n11=>by
    rw[AE.at_set_ne _ n11,AE.at_set_ne _ pJ,AE.at_set_ne _ n9,AE.at_set_ne _ n8]
   have w10:∀b,(a3.put lS.dst (.bool b)).eval (.tmp 10)= .bool b:=λb=>
    BV.bool (ht3.putD (n:=20) (dst:=some 10) rfl (.bool b)) (by show(AE.set _ 10 _).at 10=_;rw[AE.at_set_same])
   have w11:∀b,((a3.put lS.dst (.bool b)).put lT.dst (.bool (!b))).eval (.tmp 11)= .bool (!b):=λb=>(ht4 b).bool (by rw[AE.at_set_same]);have hd4:∀b,((a3.put lS.dst (.bool b)).put lT.dst (.bool (!b))).defers= []:=λb=>(put_defers _ _ _).trans ((put_defers _ _ _).trans hd3);rintro e W2 (⟨rfl,hJ2,hK2⟩|⟨rfl,hx2⟩)
   ·refine⟨_,rfl,J6 (o:=lT) rfl rfl (Ug (x:= .tmp 10) (ty:=4) (b:=true) rfl (w10 true)) ?_⟩;simp only[wpOpsIn,Exit.then,Exit.inBlock];refine wpIn_cond_false (w11 true) (wpIn_skip ?_);simp only[Exit.then,Exit.inBlock];have hr2:Rel B0 1 ι (HQ (AD l) l.length) W2:=hK2 hr1
    obtain⟨y2,hy2⟩:=(ht4 true).full (bR lp (p:Int)) (by
     intro q hq;simp only[bR,List.mem_cons,List.not_mem_nil,or_false]at hq;rcases hq with rfl|rfl|rfl
     ·exact(z4 true 0 (by decide) (by decide) (by decide) (by decide)).trans k0
     ·exact(z4 true 1 (by decide) (by decide) (by decide) (by decide)).trans k1
     ·exact(z4 true 3 (by decide) (by decide) (by decide) (by decide)).trans k3)
    have next:∀(j:Nat),1<=j->j<=2->QJ x=j->∀(a5:Act) (W5:World) (t5:AE),BV ι 20 t5 a5->t5.at 0=yV lp->t5.at 1=B4 2 0->t5.at 3= .int .i64 ((p+j:Nat):Int)->a5.defers= []->Rel B0 1 ι (HQ (AD l) l.length) W5->W2.grownBy W5 none->
      oq (B0:=B0) (ι:=ι) (l:=l) lp J a5 W5/\oi l.length a5<oi l.length a:=by
     intro j hj1 hj2 hpl a5 W5 t5 ht5 z0 z1 z3 hd5 hr5 hg5
     obtain⟨y5,hy5⟩:=ht5.full (bR lp ((p+j:Nat):Int)) (by
      intro q hq;simp only[bR,List.mem_cons,List.not_mem_nil,or_false]at hq;rcases hq with rfl|rfl|rfl
      ·exact z0
      ·exact z1
      ·exact z3)
     refine⟨⟨pre++ [⟨p,hmem⟩],p+j,k',y5,?_,by omega,by omega,hJ _ W2 W5 none hJ2 hg5 (λr e=>by cases e),hr5,hy5,hd5⟩,?_⟩
     ·refine Eq.trans ?_ hpre;rw[hgo,List.map_append,List.append_assoc,←hpl];rfl
     ·rw[aG (ht5.int z3),aG h3];omega
    have hM:(HQ (AD l) l.length).top:=Du _;have hM0:(HQ (AD l) l.length).get 0= .cells false gl:=by kernel_rfl
    rcases fB hS hmem hx with⟨hpl,hrun⟩|⟨hpl,hrun⟩
    ·refine Hm (lQ y2 (AD l) (AP x) l.length lp (p:Int)) (AB (CX hx) (AB (CY hx) (AB (aE hM hM0 (by show 1<=3;decide) hrun) A8))) hr2 hy2 λa5 W5 t5 ht5 z0 z1 z3 _ hd5 hr5 hg5=>?_;exact next 1 (by decide) (by decide) hpl a5 W5 t5 ht5 z0 z1 (by rw[z3,TL (by omega)]) (hd5.trans (hd4 true)) hr5 hg5
    ·refine Hm (lR y2 (AD l) (AP x) l.length lp (p:Int)) (AB (CX hx) (AB (CY hx) (AB (aE hM hM0 (by show 1<=3;decide) hrun) A8))) hr2 hy2 λa5 W5 t5 ht5 z0 z1 z3 _ hd5 hr5 hg5=>?_;refine next 2 (by decide) (by decide) hpl a5 W5 t5 ht5 z0 z1 ?_ (hd5.trans (hd4 true)) hr5 hg5;rw[z3,show Int.add (p:Int) 2=((p+2:Nat):Int)from rfl,wrap_i64 ⟨by omega,by omega⟩]
   ·refine⟨_,rfl,J6 (o:=lT) rfl rfl (Ug (x:= .tmp 10) (ty:=4) (b:=false) rfl (w10 false)) ?_⟩;simp only[wpOpsIn,Exit.then,Exit.inBlock];refine wpIn_cond_true (w11 false) (wpIn_ret ?_);simp only[Exit.then,Exit.inBlock];exact⟨hd4 false,_,results_none rfl _ _ _,⟨_,rfl⟩, .inr ⟨_,trivial,hx2⟩⟩
  ·refine Hm (iB y (AD l) l.length lp (p:Int) false) (AB (by simp[CC,CA,CN];omega) A8) hrp htp λa1 W1 t1 ht1 k0 k1 k3 k7 hd1 hr1 hg1=>?_;simp only[Exit.then];have h7:a1.tmps.getD 7 undef= .bool false:=ht1.bool k7;refine wpIn_cond_false (show a1.eval (.tmp 7)= .bool false from h7) (wpIn_exit ?_);simp only[Exit.then,Exit.inBlock];have hJ1:J pre W1:=hJ pre W W1 none hJp hg1 (λr e=>by cases e);rw[TV (by omega),List.append_nil]at hpre;exact⟨hd1.trans hdp,_,results_none rfl _ _ _,⟨_,rfl⟩, .inl ⟨pre,hpre,hJ1⟩⟩
end
end Go.Proofs.YtgjflcgmieiafaaDoor
namespace Go.DI
open Go.RowKit
noncomputable section
def Marks(Ds:List Nat)(W:World):Prop:=∀D∈Ds,W.heap[D]?=some (.deferred (some []))
theorem Marks.keeps{Ds:List Nat}{W W':World}(h:Marks Ds W)(hk:Eg W W'):Marks Ds W':=λD hD=>hk.2 D _ (h D hD) rfl
section
variable{P:Program}{B0 n d:Nat}{w0 w:World}{ι:Ren}{m0:Mem}{a:Act}{g:Operand}{ps:Array Tmp}{assign body:Code}{Q:Exit->Act->World->Prop}
theorem Ml{α:Type}(hs:St B0 w0 ι m0 w){Ds:List Nat}(hDs:Marks Ds w)(hd:1<=d){gf:Nat}{lb:Array Value}(hg:a.eval g= .func (.func gf) #[] lb)(eg:∀args w,(callFunc gf args).run P w= .ok (.enter gf args) w)
  {encs:α->Array Value} {Kp:World->World->Prop} {S:List α->Prop} {N:Nat} (hseq:SeqStopsK Fence.wide (d - 1) P gf lb encs Kp S (λ_=>True) N w)
  (hKt:∀{A B C:World},Kp A B->Kp B C->Kp A C) (hKb:∀(W:World) (l:Nat) (o o':Obj),w.heap.size<=l->W.heap[l]?=some o->o.isCells=false->o.isWalk=false->Kp W (W.putObj l o')) (hps:∀x,(encs x).size=ps.size)
  (mp:List α->Mem) (h0:mp []=m0) (hc:∀pre b,((mp pre).get b).live->∃o c,(mp pre).get b= .cells o c) (a₁:α->Act)
  (hassign:∀(l:Nat) (x:α) (W:World) (K:Act->World->Prop),K (a₁ x) W->
   assign.wpIn (FR l) (d - 1 - 1) P (Exit.then K (λ_ _ _=>False)) {tmps:=(ps.zip (encs x)).foldl (λt (p,v)=>t.setIfInBounds p v) a.tmps,defers:= []} W)
  (hbody:∀(l:Nat) (pre:List α) (x:α) (W:World) (Q':Exit->Act->World->Prop),¬LetsOut Q'->St B0 w0 ι (mp pre) W->(∀a' W',Eg W W'->St B0 w0 ι (mp (pre++ [x])) W'->Q' .normal a' W')->body.wpIn (FR l) (d - 1 - 1) P Q' (a₁ x) W)
  (hKp:∀(pre:List α) (W W':World),St B0 w0 ι (mp pre) W'->Kp W W')
  (hQ:∀(D:Nat) (xs:List α) (W:World),w.heap.size<=D->S xs->St B0 w0 ι (mp xs) W->Marks (D::Ds) W->Q .normal {a with defers:={target:= .collected D,args:= #[]}::a.defers} W):
  (Code.rangeFunc g ps assign body).wpIn Fence.wide d P Q a w:=by
 have hsz:w0.heap.size<=w.heap.size:=hs.below.size
 have hown:OwnFrom w.heap.size (λpre W=>St B0 w0 ι (mp pre) W/\Marks Ds W/\∀D∈Ds,D<w.heap.size):=by
  rintro pre W W' row ⟨h1,h2,h3⟩ hgr hr;refine⟨h1.grown (hc pre) hsz hgr hr,λD hD=>?_,h3⟩;have hlt:D<W.heap.size:=(Array.getElem?_eq_some_iff.1 (h2 D hD)).1;rw[hgr.block D hlt λe=>?_]
  ·exact h2 D hD
  ·obtain⟨hB,_⟩:=hr D e.symm;have:=h3 D hD;omega
 have hDlt:∀D∈Ds,D<w.heap.size:=λD hD=>(Array.getElem?_eq_some_iff.1 (hDs D hD)).1
 refine wpIn_rangeFunc_ownG (F:=Fence.wide) rfl hd hg trivial eg hseq hKt hKb (Below.refl _ _) hps (λpre W=>St B0 w0 ι (mp pre) W/\Marks Ds W/\∀D∈Ds,D<w.heap.size) (λ_ _ _=>False) hown (λ_ _ _ _ _ hf _ _=>hf) ⟨h0▸hs,hDs,hDlt⟩ a₁ hassign ?_ ?_ ?_
 ·rintro l pre x W ⟨h1,h2,h3⟩ _;refine hbody l pre x W _ (by rintro⟨_,_,h⟩;exact h) h1 λa' W' hk hst=>?_;exact⟨hk.from _,hKp _ W W' hst,hst,h2.keeps hk,h3⟩
 ·rintro D xs W hD hS ⟨h1,h2,h3⟩ hk;refine hQ D xs W hD hS h1 λD' hD'=>?_;rcases List.mem_cons.1 hD' with rfl|hD'
  ·exact hk
  ·exact h2 D' hD'
 ·rintro D c pre W _ _ hf _;exact hf.elim
end
section
variable{P:Program}{K:TypeId->Bool}{B0:Nat}{w0 W:World}{ι:Ren}{M M':Mem}{t:AE}{a:Act}{h:H.Hint}{o:DT}{N d:Nat}{c:Code}{ds:List Nat}{vs:List Value}{qs:List Prop}{Q:Exit->Act->World->Prop}{e:Ex}
noncomputable def KV(h:H.Hint)(P:Program)(K:TypeId->Bool)(c:Code)(N:Nat)(ds:List Nat)(t:AE)(M:Mem):Option (H.TT (Ex×List Value×Mem)):=
 H.codeT h c P K 1 (H.callT h P K 1 20) (λbody _ k t m q=>Y.loopF body k t m q) N 20 t M λe t m=>some ((e,ds.map t.at,m),[],[])
theorem Yo(h1:∀f v args m,h.call f=some v->h.says f args m v->o f args m=some (v,h.eff f m))(h2:∀f,h.call f=none->∀a m,o f a m=none)
  (hr:(KV h P K c N ds t M).map (λx=>(x.1,x.2.2))=some ((e,vs,M'),qs)) (hp:((KV h P K c N ds t M).map λx=>x.2.1.map Prod.fst)=((KV h P K c N ds t M).map λx=>x.2.1.map Prod.snd)) (hq:∀q∈qs,q):
  ∃t',AH P K 1 (Bw P K 1 o 20) (A6 P K 1 (Bw P K 1 o 20) N) N 20 c t M=some (e,t',M')/\ds.map t'.at=vs:=by
 obtain⟨e',t',m',a1,a2⟩:=H.codeO_H (H:=h) (o:=o) (P:=P) (K:=K) (G:=1) (j:=20) (n:=N) (k:=20) (c:=c) (t:=t) (m:=M) (g:=λe t m=>(e,ds.map t.at,m)) h1 h2 hr hp hq
 have e1:e'=_:=congrArg (λx=>x.1) a2
 have e2:ds.map t'.at=_:=congrArg (λx=>x.2.1) a2
 have e3:m'=_:=congrArg (λx=>x.2.2) a2
 rw[e1,e3]at a1
 exact⟨t',a1,e2⟩
theorem DN(Br:P.follows .mixedOrders=true)(hK:Plain P K)(FZ:O2 P)(ho:CT P B0 1 o)(hg:Bc o)
  (h1:∀f v args m,h.call f=some v->h.says f args m v->o f args m=some (v,h.eff f m)) (h2:∀f,h.call f=none->∀a m,o f a m=none)
  (hr:(KV h P K c N ds t M).map (λx=>(x.1,x.2.2))=some ((e,vs,M'),qs)) (hp:((KV h P K c N ds t M).map λx=>x.2.1.map Prod.fst)=((KV h P K c N ds t M).map λx=>x.2.1.map Prod.snd)) (hq:∀q∈qs,q)
  (hs:St B0 w0 ι M W) (hc:Fh M) (ht:BV ι N t a)
  (hQ:∀ι' a' W' t',St B0 w0 ι' M' W'->BV ι' N t' a'->ds.map t'.at=vs->a'.defers=a.defers->(∀b,b<M.size->ι' b=ι b)->Eg W W'->Q e.to a' W'):c.wpIn Fence.wide d P Q a W:=by
 obtain⟨t',a1,a2⟩:=Yo h1 h2 hr hp hq
 exact piece Br hK (Dg Br hK FZ ho hg 20) (Cb hg 20) a1 hs hc ht λι' a' W' g1 g2 g3 g4 g5=>hQ ι' a' W' t' g1 g2 a2 g3 g4 g5
theorem Ft{l:Nat}(Br:P.follows .mixedOrders=true)(hK:Plain P K)(FZ:O2 P)(ho:CT P B0 1 o)(hg:Bc o)
  (h1:∀f v args m,h.call f=some v->h.says f args m v->o f args m=some (v,h.eff f m)) (h2:∀f,h.call f=none->∀a m,o f a m=none) (hfl:IY c=true)
  (hr:(KV h P K c N ds t M).map (λx=>(x.1,x.2.2))=some ((e,vs,M'),qs)) (hp:((KV h P K c N ds t M).map λx=>x.2.1.map Prod.fst)=((KV h P K c N ds t M).map λx=>x.2.1.map Prod.snd)) (hq:∀q∈qs,q)
  (hs:St B0 w0 ι M W) (hc:Fh M) (ht:BV ι N t a) (hx:¬LetsOut Q)
  (hQ:∀ι' a' W' t',St B0 w0 ι' M' W'->BV ι' N t' a'->ds.map t'.at=vs->a'.defers=a.defers->(∀b,b<M.size->ι' b=ι b)->Eg W W'->Q e.to a' W'):c.wpIn (FR l) d P Q a W:=by
 obtain⟨t',a1,a2⟩:=Yo h1 h2 hr hp hq
 exact dv Br hK (Dg Br hK FZ ho hg 20) (Cb hg 20) hfl a1 hs hc ht hx λι' a' W' g1 g2 g3 g4 g5=>hQ ι' a' W' t' g1 g2 a2 g3 g4 g5
theorem GH{t':AE}:∀{ds:List Nat} {vs:List Value},ds.map t'.at=vs->∀p∈ds.zip vs,t'.at p.1=p.2
 | [],_,_,p,hp=>by simp at hp
 |d::ds,[],h,p,hp=>by simp at h
 |d::ds,v::vs,h,p,hp=>by
  simp only[List.map_cons,List.cons.injEq]at h;simp only[List.zip_cons_cons,List.mem_cons]at hp;rcases hp with rfl|hp
  ·exact h.1
  ·exact GH h.2 p hp
theorem Iv{l id:Nat}{op:Oper}{x:Operand}{K':Act->World->Prop}(hop:op.op= .assign x)(hg:op.guard=none)(hk:K' (a.put op.dst (a.eval x)) W):(Code.region id #[op] false).wpIn (FR l) d P (Exit.then K' (λ_ _ _=>False)) a W:=by
 refine wpIn_region ?_
 show wpOpsIn (FR l) d P #[op] _ [0] a W
 have e:Oper.semAt (FR l).round a.eval op=execOp a.eval op:=Oper.semAt_some l _ _ (by intro c hc;rw[hop]at hc;cases hc)
 refine Uh (o:=op) (v:=a.eval x) (w':=W) rfl hg (λ_=>trivial) (by rw[e];exact run_assign hop) ?_
 exact hk
theorem BV.setI(ht:BV ι N t a){p:Nat}(hp:p<N){v v':Value}(hv:AV ι v v'):BV ι N (t.set p v) {a with tmps:=a.tmps.setIfInBounds p v'}:=ht.put hp hv
end
end
end Go.DI
namespace Go.Proofs.YtgjflcgmieiafaaDoor
open Go Go.DI Go.DI.Kit Go.Proofs Go.Cmp Go.RowKit
noncomputable section
def Kx(bx i:Nat):Nat:=if i=2 then bx else i
def i93(ι:Ren)(bx:Nat):Ren:=ι.sub (Kx bx) λi=>Nat.blt i 3
theorem JF(ι:Ren)(bx b:Nat)(h:b<3):i93 ι bx b=ι (Kx bx b):=by
 show(if Nat.blt b 3=true then _ else none)=_
 rw[if_pos (by simp[Nat.blt_eq];omega)]
theorem bE{B0:Nat}{ι:Ren}{own:Bool}{c:List Value}{L:Go.DI.Loc}{W:World}(h:Bd B0 ι (.cells own c) L W):Bd B0 ι (.cells false c) L W:=by
 obtain⟨rc,e,fr,h1,h2,h3,h4,h5⟩:=h
 exact⟨rc,e,fr,h1,h2,h3,h4,λh=>by cases h⟩
theorem Zp{B0:Nat}{w0 W:World}{ι:Ren}{m:Mem}{bx:Nat}{o1 o2:Bool}{l:List B1}(hs:Go.DI.St B0 w0 ι m W)(hz:1<m.size)(hbx:bx<m.size)(hb2:2<=bx)(g0:m.get 0= .cells false gl)(g1:m.get 1= .cells o1 (AD l))(gx:m.get bx= .cells o2 [AX 1 l.length]):
  Rel B0 1 (i93 ι bx) (HQ (AD l) l.length) W:=by
 have key:∀b,b<3->Kx bx b<m.size/\(m.get (Kx bx b)).live:=λb hb=>by
  have:b=0\/b=1\/b=2:=by omega
  rcases this with rfl|rfl|rfl
  ·refine⟨by show 0<_;omega,?_⟩;show(m.get 0).live;rw[g0];trivial
  ·refine⟨hz,?_⟩;show(m.get 1).live;rw[g1];trivial
  ·refine⟨hbx,?_⟩;show(m.get bx).live;rw[gx];trivial
 refine⟨λb L hb hL=>?_,λb₁ b₂ L₁ L₂ b1 b2 e1 e2 l1 l2 g0' e=>?_,hs.rel.floor,λg hg=>?_,Du _⟩
 ·have hb:b<3:=hb;rw[JF ι bx b hb]at hL;have hr:=hs.rel.blk _ L (key b hb).1 hL;have:b=0\/b=1\/b=2:=by omega
  rcases this with rfl|rfl|rfl
  ·have hr:Bd B0 ι (m.get 0) L W:=hr;rw[g0]at hr;rw[show(HQ (AD l) l.length).get 0= .cells false gl by kernel_rfl];exact(El (ρ:=Kx bx) (k:=λi=>Nat.blt i 3) Cs).rel B0 ι L W hr
  ·have hr:Bd B0 ι (m.get 1) L W:=hr;rw[g1]at hr;have h2:=bsim_ren (ρ:=Kx bx) (nb:=3) (b:= .cells false (AD l)) (λv hv=>Fx (List.all_eq_true.1 (BL l) v hv)) (λv hv=>EL (List.all_eq_true.1 (BL l) v hv));rw[show(HQ (AD l) l.length).get 1= .cells false (AD l)by kernel_rfl];refine h2.rel B0 ι L W ?_;show Bd B0 ι (.cells false ((AD l).map _)) L W;rw[CP (BL l)];exact bE hr
  ·have hr:Bd B0 ι (m.get bx) L W:=hr;rw[gx]at hr;have h2:=bsim_ren (ρ:=Kx bx) (nb:=3) (b:= .cells false [AX 1 l.length]) (λv hv=>by obtain rfl:=List.mem_singleton.1 hv;rfl) (λv hv=>by obtain rfl:=List.mem_singleton.1 hv;rfl);rw[show(HQ (AD l) l.length).get 2= .cells false [AX 1 l.length]by kernel_rfl];refine h2.rel B0 ι L W ?_;exact bE hr
 ·have b1:b₁<3:=b1;have b2:b₂<3:=b2;rw[JF ι bx _ b1]at e1;rw[JF ι bx _ b2]at e2;have:=hs.rel.inj _ _ _ _ (key b₁ b1).1 (key b₂ b2).1 e1 e2 (key b₁ b1).2 (key b₂ b2).2 g0' e;unfold Kx at this;split at this<;>split at this<;>omega
 ·obtain rfl:g=0:=by omega
  obtain⟨L,p1,p2⟩:=hs.rel.glob 0 (by decide);exact⟨L,by rw[JF ι bx 0 (by decide)];exact p1,p2⟩
theorem Zq{B0:Nat}{ι:Ren}{l:List B1}{A B C:World}(h:oh B0 ι l A B)(k:oh B0 ι l B C):oh B0 ι l A C:=λg=>k (h g)
theorem XL(l:List B1):∀b,((HQ (AD l) l.length).get b).live->∃o c,(HQ (AD l) l.length).get b= .cells o c:=by
 intro b hb
 have e:(HQ (AD l) l.length).get b=if b<1 then(mG gl).get b else(match [BI.cells false (AD l),BI.cells false [AX 1 l.length]][b - 1]? with|some x=>x|none=>(mG gl).get b):=CV _ (mG gl) b
 rw[e]at hb ⊢
 by_cases h:b<1
 ·obtain rfl:b=0:=by omega
  rw[if_pos h,mG_get];exact⟨_,_,rfl⟩
 ·rw[if_neg h]at hb ⊢;rcases hj:b - 1 with _|_|j
  ·exact⟨_,_,rfl⟩
  ·exact⟨_,_,rfl⟩
  ·rw[hj]at hb;have hb:((mG gl).get b).live:=hb;rw[mG_top gl b (by rw[mG_size];omega)]at hb;exact hb.elim
theorem Zr{B0:Nat}{ι:Ren}{l:List B1}(W:World)(k:Nat)(o o':Obj)(hk:W.heap[k]?=some o)(hno:o.isCells=false):oh B0 ι l W (W.putObj k o'):=λhr=>by
 have hg:=grownBy_putObj' W k o'
 refine⟨λb L hb hL=>?_,hr.inj,Nat.le_trans hr.floor hg.size,hr.glob,hr.top⟩
 have hb0:=hr.blk b L hb hL
 refine hb0.monoL (λ_ _ h=>h) λhl=>?_
 obtain⟨o1,c,hgb⟩:=XL l b hl
 refine hg.block _ (hb0.lt hl) λe=>?_
 have e:L.block=k:=Option.some.inj e
 rw[hgb]at hb0
 obtain⟨rc,e1,fr,h1,_⟩:=hb0
 rw[e,hk]at h1
 cases h1
 cases hno
theorem Pe{ι:Ren}{n:Nat}{t:AE}{a:Act}(ht:BV ι n t a){d bx:Nat}(hd:t.at d= .func (.func 77) #[] #[B4 bx 0]):∃Lb,ι bx=some Lb/\a.tmps.getD d undef= .func (.func 77) #[] #[.pointer (some ⟨Lb.block,Lb.base+0,none⟩)]:=by
 have:=ht.2 d
 rw[hd]at this
 generalize a.tmps.getD d undef=u at this ⊢
 cases this with
 |func fn x x' y y' hx hy h1 h2=>
  have e1:x'= #[]:=Array.eq_empty_of_size_eq_zero hx.symm
  obtain⟨v,hv⟩:∃v,y'= #[v]:=by
   have:y'.size=1:=hy.symm;refine⟨y'[0],Array.ext (by simp[this]) λi hi hj=>?_⟩;obtain rfl:i=0:=by omega
   rfl
  subst e1 hv;have:=h2 0 (B4 bx 0) v rfl rfl;cases this with
  |ptr _ _ L hL=>exact⟨L,hL,rfl⟩
noncomputable def se:Code:=AN Tryd.f53
theorem sf:Tryd.prog.funcs[53]?=some Tryd.f53:=by kernel_rfl
theorem sg:Tryd.f53.body=some se:=by kernel_rfl
noncomputable def X0(i:Nat):Array Oper:=Iu se i
theorem lj:se= .seq (.region 0 (X0 0) false) (.seq (.region 1 (X0 1) false) (.seq (.seq (.region 2 (X0 2) false) (.block 0 (.rangeFunc (.tmp 9) #[10] (.region 3 (X0 3) false) (.block 1 (.region 4 (X0 4) false))))) (.seq (.region 5 (X0 5) false) .ret))):=by kernel_rfl
noncomputable def hS(z y:List Value):H.Hint where
 ix t:=Nat.beq t 120
 ld _ _ _:=none
 cmp _ _:=none
 ap _:=none
 call f:=cond (Nat.beq f 38||(Nat.beq f 37||Nat.beq f 52)) (some undef) none
 spec _ _ _ _:=False
 blk:=0
 mks t:=cond (Nat.beq t 120) (some (.cells true z)) none
 st t b:=cond (Nat.beq t 4 && Nat.beq b 2) (some (.cells true y)) none
theorem Rj{z y:List Value}(f:FuncId)(v:Value)(args:List Value)(m:Mem)(hc:(hS z y).call f=some v)(hs:(hS z y).says f args m v):Pd f args m=some (v,(hS z y).eff f m):=hs.elim
theorem NP{z y:List Value}(f:FuncId)(hc:(hS z y).call f=none)(a:List Value)(m:Mem):Pd f a m=none:=
 LY (by rintro rfl;cases hc) (by rintro rfl;cases hc) (by rintro rfl;cases hc) a m
noncomputable def XM(n:Nat):Value:= .slice (some ⟨2,0,none⟩) n n
noncomputable def m6(o1:Bool)(L:List Value):Mem:=mS gl [.cells o1 L]
noncomputable def tP(o1:Bool)(L z:List Value)(n:Nat):Mem:=mS gl [.cells o1 L, .cells true z, .cells true [XM n]]
noncomputable def T4(o1:Bool)(L z:List Value)(n:Nat):Mem:=mS gl [.cells o1 L, .cells true z, .cells true [XM n], .cells true [AX 1 n]]
noncomputable def tU:Value:= .pointer (some ⟨4,0,none⟩)
noncomputable def Pc(bx:Nat):Value:= .func (.func 77) #[] #[B4 bx 0]
noncomputable def tQ(z:List Value)(n:Nat):Prop:=H.mkOk Tryd.prog 1 120 (.int .i64 (Int.ofNat n)) (.int .i64 (Int.ofNat n)) (.cells true z) n n
noncomputable def tR(z y:List Value)(p:Int):Prop:=H.stOk Tryd.prog (.cells true z) 4 (Nat.add 0 (Nat.mul p.toNat 1)) (.bool true) (.cells true y)
theorem iF(x:Nat->Value)(o1:Bool)(L:List Value)(n:Nat):Rn (KV (hS [] []) Tryd.prog kp (.region 0 (X0 0) false) 15 [0] (AA 15 (up x [(0,AX 1 n)])) (m6 o1 L)) ((.normal,[AX 1 n],m6 o1 L),[]):=⟨by kernel_rfl,by kernel_rfl⟩
theorem iG(x:Nat->Value)(o1:Bool)(L z:List Value)(n:Nat):Rn (KV (hS z []) Tryd.prog kp (.region 1 (X0 1) false) 15 [0,3] (AA 15 (up x [(0,AX 1 n)])) (m6 o1 L)) ((.normal,[AX 1 n,B4 3 0],tP o1 L z n),[tQ z n]):=⟨by kernel_rfl,by kernel_rfl⟩
theorem iH(x:Nat->Value)(o1:Bool)(L z:List Value)(n:Nat):Rn (KV (hS [] []) Tryd.prog kp (.region 2 (X0 2) false) 15 [3,9] (AA 15 (up x [(0,AX 1 n),(3,B4 3 0)])) (tP o1 L z n)) ((.normal,[B4 3 0,Pc 4],T4 o1 L z n),[]):=⟨by kernel_rfl,by kernel_rfl⟩
theorem iI(x:Nat->Value)(o1:Bool)(L z y:List Value)(n:Nat)(p:Int):Rn (KV (hS [] y) Tryd.prog kp (.block 1 (.region 4 (X0 4) false)) 15 [] (AA 15 (up x [(3,B4 3 0),(4, .int .i64 p)])) (T4 o1 L z n)) ((.normal,[],T4 o1 L y n),[Hl p n,tR z y p]):=⟨by kernel_rfl,by kernel_rfl⟩
theorem iJ(x:Nat->Value)(o1:Bool)(L z:List Value)(n:Nat):Rn (KV (hS [] []) Tryd.prog kp (.region 5 (X0 5) false) 15 [2] (AA 15 (up x [(3,B4 3 0)])) (T4 o1 L z n)) ((.normal,[XM n],T4 o1 L z n),[]):=⟨by kernel_rfl,by kernel_rfl⟩
def AS(s:List Nat)(n:Nat):List Value:=(List.range n).map λi=>Value.bool (decide (i∈s))
theorem GL(s:List Nat)(n:Nat):(AS s n).length=n:=by simp[AS]
theorem GM(s:List Nat)(n i:Nat):(AS s n)[i]?=if i<n then some (.bool (decide (i∈s)))else none:=by
 unfold AS
 rw[List.getElem?_map]
 by_cases h:i<n
 ·rw[List.getElem?_range h,if_pos h];rfl
 ·rw[List.getElem?_eq_none (by simp;omega),if_neg h];rfl
theorem Rk(v:Value):∀n,F5 [v] n=List.replicate n v
 |0=>rfl
 |n+1=>by
  show v::F5 [v] n=_;rw[Rk v n];rfl
theorem lk:Tryd.prog.underlying 120=some (.slice 4):=by kernel_rfl
theorem si:bytesOf Tryd.prog 4=some 1:=by kernel_rfl
theorem sj(n:Nat):D5 Tryd.prog 4 n=some (F5 [.bool false] n):=by kernel_rfl
theorem ll{n:Nat}(h:n<=512):tQ (AS [] n) n:=λt lx cx h1 h2=>by
 have hb:AS [] n=F5 [.bool false] n:=by
  rw[Rk];apply List.ext_getElem?;intro i;rw[GM,List.getElem?_replicate];simp
 unfold E4
 simp only[lk,h1,h2,si,Int.ofNat_eq_natCast]
 rw[if_pos ⟨by omega,by omega,by omega,by omega⟩,Int.toNat_natCast,sj,hb]
theorem lq{s:List Nat}{n p:Nat}(h:p<n):tR (AS s n) (AS (s++ [p]) n) (p:Int):=λm b hm=>by
 have hsz:Bh Tryd.prog 4=some 1:=by kernel_rfl
 have hoff:Nat.add 0 (Nat.mul (p:Int).toNat 1)=p:=by
  show 0+(p:Int).toNat*1=p;simp
 rw[hoff]
 have hc:(Value.bool true).cells.toList= [.bool true]:=rfl
 unfold Bx
 simp only[hsz,hc]
 rw[if_pos (by rfl)]
 unfold Df
 rw[hm]
 simp only
 rw[if_pos (by rw[GL];simp;omega),if_pos (show [Value.bool true].all one=true from rfl)]
 have:splice (AS s n) p [.bool true]=AS (s++ [p]) n:=by
  apply List.ext_getElem?;intro i;rw[EF _ _ _ _ (by rw[GL];simp;omega),GM,GM];by_cases hi:i=p
  ·subst hi;rw[if_pos (by simp),if_pos h];simp
  ·rw[if_neg (by simp;omega)];simp[hi]
 rw[this]
theorem Cf(ss:List BI)(j:Nat):(mS gl ss).get j=if j<1 then(mG gl).get j else(match ss[j - 1]? with|some x=>x|none=>(mG gl).get j):=CV ss (mG gl) j
theorem Fy{ss:List BI}(h:∀s∈ss,∃o c,s= .cells o c)(b:Nat)(hb:((mS gl ss).get b).live):∃o c,(mS gl ss).get b= .cells o c:=by
 rw[Cf]at hb ⊢
 by_cases h0:b<1
 ·obtain rfl:b=0:=by omega
  rw[if_pos h0,mG_get];exact⟨_,_,rfl⟩
 ·rw[if_neg h0]at hb ⊢;cases hj:ss[b - 1]? with
  |some x=>exact h x (List.mem_of_getElem? hj)
  |none=>
   rw[hj]at hb;have hb:((mG gl).get b).live:=hb;rw[mG_top gl b (by rw[mG_size];omega)]at hb;exact hb.elim
theorem Ch{ss:List BI}(h:∀s∈ss,∃o c,s= .cells o c):Fh (mS gl ss):=λb hb=>Fy h b (Yq hb)
theorem Jm(ss:List BI):(mS gl ss).size=1+ss.length:=by unfold mS;rw[D0,mG_size]
theorem VW{B0:Nat}{ι:Ren}{ss:List BI}{W:World}(hr:Rel B0 1 ι (mS gl ss) W)(hok:∀s∈ss,okB s/\seenB (1+ss.length) s):Rel B0 1 (ι.sub id λi=>Nat.blt i (1+ss.length)) (mS gl ss) W:=by
 have hin:∀b L,(ι.sub id λi=>Nat.blt i (1+ss.length)) b=some L->b<1+ss.length/\ι b=some L:=λb L h=>by
  obtain⟨g1,g2⟩:=sub_id _ _ _ _ h;exact⟨by simpa[Nat.blt_eq]using g1,g2⟩
 refine⟨λb L hb hL=>?_,λb₁ b₂ L₁ L₂ b1 b2 e1 e2 l1 l2 g0 e=>hr.inj _ _ _ _ b1 b2 (hin _ _ e1).2 (hin _ _ e2).2 l1 l2 g0 e,hr.floor,λg hg=>?_,hr.top⟩
 ·obtain⟨g1,g2⟩:=hin b L hL;have hb0:=hr.blk b L hb g2;by_cases h0:b=0
  ·subst h0;have e0:(mS gl ss).get 0= .cells false gl:=by rw[Cf,if_pos (by decide),mG_get]
   rw[e0]at hb0 ⊢;exact(El (ρ:=id) (k:=λi=>Nat.blt i (1+ss.length)) Cs).rel B0 ι L W hb0
  ·have hj:b - 1<ss.length:=by omega
   have eb:(mS gl ss).get b=ss[b - 1]:=by rw[Cf,if_neg (by omega),List.getElem?_eq_getElem hj]
   rw[eb]at hb0 ⊢;obtain⟨k1,k2⟩:=hok _ (List.getElem_mem hj);have:=bsim_ren (ρ:=id) k1 k2;rw[renB_id k1]at this;exact this.rel B0 ι L W hb0
 ·obtain⟨L,p1,p2⟩:=hr.glob g hg;obtain rfl:g=0:=by omega
  refine⟨L,?_,p2⟩;show(if Nat.blt 0 (1+ss.length)=true then ι 0 else none)=some L;rw[if_pos (by simp[Nat.blt_eq];omega)];exact p1
theorem Rb{B0:Nat}{ι:Ren}{own:Bool}{L:List Value}{W:World}(hr:Rel B0 1 ι (mS gl [.cells own L]) W):Rel B0 1 ι (mS gl [.cells false L]) W:=by
 have hlive:∀b,((mS gl [.cells false L]).get b).live->((mS gl [.cells own L]).get b).live:=λb hb=>by
  rw[Cf]at hb ⊢;split
  ·rename_i h;rw[if_pos h]at hb;exact hb
  ·rename_i h;rw[if_neg h]at hb;rcases hj:b - 1 with _|j
   ·rw[hj]at hb;trivial
   ·rw[hj]at hb;exact hb
 refine⟨λb L' hb hL=>?_,λb₁ b₂ L₁ L₂ b1 b2 e1 e2 l1 l2 g0 e=>hr.inj _ _ _ _ b1 b2 e1 e2 (hlive _ l1) (hlive _ l2) g0 e,hr.floor,hr.glob,Du _⟩
 have h:=hr.blk b L' hb hL
 have hb:b<2:=hb
 have:b=0\/b=1:=by omega
 rcases this with rfl|rfl
 ·have e0:∀o,(mS gl [.cells o L]).get 0= .cells false gl:=λo=>by rw[Cf,if_pos (by decide),mG_get]
  rw[e0]at h ⊢;exact h
 ·have e1:∀o,(mS gl [.cells o L]).get 1= .cells o L:=λo=>by rw[Cf];rfl
  rw[e1]at h ⊢;exact bE h
theorem IL{l:List B1}{p:Nat}(h:p∈AW l):p<l.length:=by
 have key:∀(k q:Nat),p∈Bg l k q->p<l.length:=by
  intro k;induction k with
  |zero=>intro q h;simp[Bg]at h
  |succ k ih=>
   intro q h;simp only[Bg]at h;cases hx:l[q]? with
   |none=>rw[hx]at h;simp at h
   |some x=>
    rw[hx]at h;simp only[List.mem_cons]at h;rcases h with rfl|h
    ·exact(List.getElem?_eq_some_iff.1 hx).1
    ·exact ih _ h
 exact key _ _ h
def aS:Oper:={dst:=some 4,op:= .assign (.tmp 10),type:=3,pos:= "shape.go:36",after:= #[],guard:=none}
theorem three{o1 o2 o3:Bool}{a b c:List Value}:∀s∈ [BI.cells o1 a, .cells o2 b, .cells o3 c],∃o c,s= .cells o c:=by
 intro s hs
 simp only[List.mem_cons,List.not_mem_nil,or_false]at hs
 rcases hs with rfl|rfl|rfl<;>exact⟨_,_,rfl⟩
theorem four{o1 o2 o3 o4:Bool}{a b c d:List Value}:∀s∈ [BI.cells o1 a, .cells o2 b, .cells o3 c, .cells o4 d],∃o c,s= .cells o c:=by
 intro s hs
 simp only[List.mem_cons,List.not_mem_nil,or_false]at hs
 rcases hs with rfl|rfl|rfl|rfl<;>exact⟨_,_,rfl⟩
theorem pA{o1:Bool}{a:List Value}:∀s∈ [BI.cells o1 a],∃o c,s= .cells o c:=by
 intro s hs
 obtain rfl:=List.mem_singleton.1 hs
 exact⟨_,_,rfl⟩
theorem Zl(s:List Nat)(n nb:Nat):okB (.cells true (AS s n))/\seenB nb (.cells true (AS s n)):=by
 constructor<;>
 ·intro v hv;obtain⟨i,_,rfl⟩:=List.mem_map.1 hv;rfl
theorem XC{B0:Nat}{own:Bool}{l:List B1}(hS:DK l):Dr Tryd.prog B0 1 53 [AX 1 l.length] (mS gl [.cells own (AD l)]) (XM l.length) (mS gl [.cells own (AD l), .cells true (AS (AW l) l.length)]):=by
 intro ι w args' hr hf hargs
 have hm:=hS.most
 have hcp:∀o:Bool,okB (.cells o (AD l))/\∀nb,seenB nb (.cells o (AD l)):=λo=>⟨λv hv=>Fx (List.all_eq_true.1 (BL l) v hv),λnb v hv=>EL (List.all_eq_true.1 (BL l) v hv)⟩
 obtain⟨ι0,hι0⟩:∃ι0,(ι.sub id λi=>Nat.blt i (1+ [BI.cells false (AD l)].length))=ι0:=⟨_,rfl⟩
 have hat:∀b,b<2->ι0 b=ι b:=λb hb=>by
  rw[←hι0];show(if Nat.blt b 2=true then ι b else none)=ι b;rw[if_pos (by simp[Nat.blt_eq];omega)]
 have hno:∀b,2<=b->ι0 b=none:=λb hb=>by
  rw[←hι0];show(if Nat.blt b 2=true then ι b else none)=none;rw[if_neg (by simp[Nat.blt_eq];omega)]
 have hr0:Rel B0 1 ι0 (m6 false (AD l)) w:=by
  rw[←hι0];exact VW (Rb hr) (λs hs=>by obtain rfl:=List.mem_singleton.1 hs;exact⟨(hcp false).1,(hcp false).2 _⟩)
 have hs0:Go.DI.St B0 w ι0 (m6 false (AD l)) w:=⟨hr0,λb hb=>hno b hb,Below.refl _ _,λb L hL ho=>by
  exfalso;unfold m6 at ho;rw[Cf]at ho;split at ho
  ·rename_i h0;obtain rfl:b=0:=by omega
   rw[mG_get]at ho;cases ho
  ·rcases hj:b - 1 with _|j
   ·rw[hj]at ho;cases ho
   ·rw[hj]at ho;have ho:((mG gl).get b).own=true:=ho;rw[mG_top gl b (by rw[mG_size];omega)]at ho;cases ho⟩
 have hargs0:B7 ι0 [AX 1 l.length] args':=by
  cases hargs with
  |cons h t=>
   cases t;refine .cons ?_ .nil;have:=UY (ρ:=id) (nb:=2) (v:=AX 1 l.length) rfl rfl;rw[U4 (by rfl)]at this;rw[←hι0];exact this ι _ h
 have hst:=IJ (nt:=15) hargs0
 have e0:AA 15 (CM [AX 1 l.length])=AA 15 (up (CM [AX 1 l.length]) [(0,AX 1 l.length)]):=by rw[up_self _ _ (by intro q hq;obtain rfl:=List.mem_singleton.1 hq;rfl)]
 have hst:BV ι0 15 (AA 15 (up (CM [AX 1 l.length]) [(0,AX 1 l.length)])) {tmps:=args'.toArray++Array.replicate (Tryd.f53.ntmps - args'.toArray.size) undef,defers:= []}:=by
  rw[←e0];exact hst
 refine(callsIn_wide (n:=1)).1 (callsIn_of_wp_marks sf sg trivial ?_ rfl)
 rw[lj]
 refine wpIn_seq (DN Br hK FZ (JE B0) GK Rj NP (iF _ false (AD l) l.length).1 (iF _ false (AD l) l.length).2 A8 hs0 (Ch pA) hst λι1 a1 W1 t1 hs1 ht1 hv1 hd1 hk1 hkp1=>?_)
 simp only[Ex.to,Exit.then]
 obtain⟨x1,hx1⟩:=ht1.full _ (GH hv1)
 refine wpIn_seq (DN Br hK FZ (JE B0) GK Rj NP (iG x1 false (AD l) (AS [] l.length) l.length).1 (iG x1 false (AD l) (AS [] l.length) l.length).2 (AB (ll hm) A8) hs1 (Ch pA) hx1 λι2 a2 W2 t2 hs2 ht2 hv2 hd2 hk2 hkp2=>?_)
 simp only[Ex.to,Exit.then]
 obtain⟨x2,hx2⟩:=ht2.full _ (GH hv2)
 refine wpIn_seq (wpIn_seq (DN Br hK FZ (JE B0) GK Rj NP (iH x2 false (AD l) (AS [] l.length) l.length).1 (iH x2 false (AD l) (AS [] l.length) l.length).2 A8 hs2 (Ch three) hx2 λι3 a3 W3 t3 hs3 ht3 hv3 hd3 hk3 hkp3=>?_))
 simp only[Ex.to,Exit.then]
 have hat3:=GH hv3
 have h93:t3.at 9=Pc 4:=hat3 (9,Pc 4) (by simp)
 have h33:t3.at 3=B4 3 0:=hat3 (3,B4 3 0) (by simp)
 obtain⟨Lb,hLb,hfun⟩:=Pe ht3 h93
 have hz3:(T4 false (AD l) (AS [] l.length) l.length).size=5:=by kernel_rfl
 have hG:∀s,(T4 false (AD l) (AS s l.length) l.length).get 0= .cells false gl/\(T4 false (AD l) (AS s l.length) l.length).get 1= .cells false (AD l)/\(T4 false (AD l) (AS s l.length) l.length).get 4= .cells true [AX 1 l.length]/\(T4 false (AD l) (AS s l.length) l.length).size=5:=λs=>⟨by kernel_rfl,by kernel_rfl,by kernel_rfl,by kernel_rfl⟩
 have hrel93:∀(s:List Nat) (W:World),Go.DI.St B0 w ι3 (T4 false (AD l) (AS s l.length) l.length) W->Rel B0 1 (i93 ι3 4) (HQ (AD l) l.length) W:=λs W h=>by
  obtain⟨g0,g1,g4,gz⟩:=hG s;exact Zp h (by rw[gz];decide) (by rw[gz];decide) (by decide) g0 g1 g4
 have hi2:i93 ι3 4 2=some Lb:=by rw[JF ι3 4 2 (by decide)];exact hLb
 refine wpIn_block (Ml (m0:=T4 false (AD l) (AS [] l.length) l.length) (ι:=ι3) hs3 (Ds:= []) (λD hD=>by simp at hD) (by decide) hfun (enters_of eY (by kernel_rfl) eZ) (JG (hrel93 [] W3 hs3) hi2 hS) (λh k=>Zq h k) (λW k o o' _ hk hno' _=>Zr W k o o' hk hno') (λx=>rfl)
  (λpre=>T4 false (AD l) (AS (pre.map Subtype.val) l.length) l.length) rfl (λpre b hb=>Fy four b hb)
  (λx=>({tmps:=a3.tmps.setIfInBounds 10 (.int .i64 (x.1:Int)),defers:= []}:Act).put (some 4) (.int .i64 (x.1:Int))) ?_ ?_ (λpre W W' h _=>hrel93 _ W' h) ?_)
 ·intro k x W K' hK';rw[show X0 3= #[aS]by kernel_rfl];refine Iv (op:=aS) (x:= .tmp 10) rfl rfl ?_;have ez:((#[10]:Array Tmp).zip (Rc l x)).foldl (λt (p,v)=>t.setIfInBounds p v) a3.tmps=a3.tmps.setIfInBounds 10 (.int .i64 (x.1:Int)):=by simp[Rc]
  rw[ez]
  have:({tmps:=a3.tmps.setIfInBounds 10 (.int .i64 (x.1:Int)),defers:= []}:Act).eval (.tmp 10)= .int .i64 (x.1:Int):=by
   have h15:10<a3.tmps.size:=by rw[ht3.1];decide
   show(a3.tmps.setIfInBounds 10 (.int .i64 (x.1:Int))).getD 10 undef=_;rw[DU,if_pos ⟨rfl,h15⟩]
  rw[this];exact hK'
 ·intro k pre x W Q' hx' hst' hQ';have hp:x.1<l.length:=IL x.2
  have ht4:BV ι3 15 ((t3.set 10 (.int .i64 (x.1:Int))).set 4 (.int .i64 (x.1:Int))) ((({tmps:=a3.tmps.setIfInBounds 10 (.int .i64 (x.1:Int)),defers:= []}:Act)).put (some 4) (.int .i64 (x.1:Int))):=
   BV.putD (n:=15) (dst:=some 4) (BV.setI (N:=15) ht3 (by decide) (.int _ _)) rfl (.int _ _)
  obtain⟨x4,hx4⟩:=ht4.full [(3,B4 3 0),(4, .int .i64 (x.1:Int))] (by
   intro q hq;simp only[List.mem_cons,List.not_mem_nil,or_false]at hq;rcases hq with rfl|rfl
   ·show(AE.set _ 4 _).at 3=_;rw[AE.at_set_ne _ (by decide)];exact(AE.at_set_ne _ (by decide) _).trans h33
   ·exact AE.at_set_same _ _ _)
  refine Ft Br hK FZ (JE B0) GK Rj NP (by kernel_rfl) (iI x4 false (AD l) (AS (pre.map Subtype.val) l.length) (AS (pre.map Subtype.val++ [x.1]) l.length) l.length (x.1:Int)).1 (iI x4 false (AD l) (AS (pre.map Subtype.val) l.length) (AS (pre.map Subtype.val++ [x.1]) l.length) l.length (x.1:Int)).2
   (AB ⟨by omega,by omega⟩ (AB (lq hp) A8)) hst' (Ch four) hx4 hx' λι5 a5 W5 t5 hs5 ht5 hv5 hd5 hk5 hkp5=>?_
  have hι5:ι5=ι3:=by
   funext b;rcases Nat.lt_or_ge b 5 with h|h
   ·exact hk5 b h
   ·rw[hs5.fresh b h,hst'.fresh b h]
  subst hι5;refine hQ' a5 W5 hkp5 ?_;rw[List.map_append];exact hs5
 ·intro D xs W hD hxs hst' hmk;have hxs:xs.map Subtype.val=AW l:=hxs;rw[hxs]at hst';simp only[Exit.inBlock,Exit.then];have ht5:BV ι3 15 t3 {a3 with defers:={target:= .collected D,args:= #[]}::a3.defers}:=ht3;obtain⟨x5,hx5⟩:=ht5.full [(3,B4 3 0)] (by intro q hq;obtain rfl:=List.mem_singleton.1 hq;exact h33);refine wpIn_seq (DN Br hK FZ (JE B0) GK Rj NP (iJ x5 false (AD l) (AS (AW l) l.length) l.length).1 (iJ x5 false (AD l) (AS (AW l) l.length) l.length).2 A8 hst' (Ch four) hx5 λι6 a6 W6 t6 hs6 ht6 hv6 hd6 hk6 hkp6=>?_);simp only[Ex.to,Exit.then];refine wpIn_ret ?_;have hd3':a3.defers= []:=by rw[hd3,hd2,hd1]
  have hmk6:=hmk.keeps hkp6 D (List.mem_cons_self ..);show LeavesInM Fence.wide 1 Tryd.prog Tryd.f53 a6.tmps _ a6.defers .returning W6;rw[hd6,hd3'];refine⟨by simp, .inl ⟨D,W6.putObj D (.deferred none),rfl,run_takeDeferred hmk6,_,results_tmp rfl _ _ _,?_⟩⟩
  have hs7:Go.DI.St B0 w ι6 (T4 false (AD l) (AS (AW l) l.length) l.length) (W6.putObj D (.deferred none)):=hs6.grown (λb hb=>Fy four b hb) (B:=w.heap.size) (Nat.le_refl _) (grownBy_putObj' W6 D _) (λr e=>by
   cases e;exact⟨Nat.le_trans hs3.below.size hD,_,hmk6,rfl⟩)
  have hv2:t6.at 2=XM l.length:=GH hv6 (2,XM l.length) (by simp);have hret:=ht6.2 2;rw[hv2]at hret
  have hown2:∀L,ι6 2=some L->w.heap.size<=L.block:=λL hL=>hs7.own 2 L hL (by
   show((mS gl _).get 2).own=true;rw[Cf];rfl)
  obtain⟨u,hu⟩:∃u,a6.tmps.getD 2 undef=u:=⟨_,rfl⟩;rw[hu]at hret;obtain⟨W7,hW7⟩:∃W7,W6.putObj D (.deferred none)=W7:=⟨_,rfl⟩;rw[hW7]at hs7;have hb7:Below w.heap.size w W7:=hs7.below;have h2none:ι 2=none:=hf 2 (by show 2<=2;omega) (by show 2<3;omega)
  have hle:ι.le λb=>if b=2 then ι6 2 else ι b:=λb L hL=>by
   show(if b=2 then ι6 2 else ι b)=some L;rw[if_neg (by rintro rfl;rw[h2none]at hL;cases hL)];exact hL
  have hsame:∀b,b<2->(mS gl [.cells own (AD l), .cells true (AS (AW l) l.length)]).get b=(mS gl [.cells own (AD l)]).get b:=λb hb=>by
   have:b=0\/b=1:=by omega
   rcases this with rfl|rfl
   ·rw[Cf,Cf];rfl
   ·rw[Cf,Cf];rfl
  have hg2:(mS gl [.cells own (AD l), .cells true (AS (AW l) l.length)]).get 2= .cells true (AS (AW l) l.length):=by kernel_rfl
  show∃v' ι',Ending.returned (a6.tmps.getD 2 undef)= .returned v'/\_;rw[hW7,hu];refine⟨u,λb=>if b=2 then ι6 2 else ι b,rfl,?_,⟨λb L hb hL=>?_,λb₁ b₂ L₁ L₂ b1 b2 e1 e2 l1 l2 g0 e=>?_,hs7.rel.floor,λg hg=>?_,Du _⟩,⟨hle,λb hb=>?_,hb7.os,hb7.output,hb7.tape,hb7.size,λB hB _=>hb7.block B hB,λb L h1 h2 hL=>?_,by show 2<=3;omega,λb hb ho=>?_⟩⟩
  ·cases hret with
   |slc _ _ _ _ L hL=>exact .slc _ _ _ _ L (by show(if(2:Nat)=2 then ι6 2 else ι 2)=some L;rw[if_pos rfl];exact hL)
  ·have hb:b<3:=hb;have hL:(if b=2 then ι6 2 else ι b)=some L:=hL;by_cases h2:b=2
   ·subst h2;rw[if_pos rfl]at hL;rw[hg2];have:=hs7.rel.blk 2 L (by show 2<5;omega) hL;rw[show(T4 false (AD l) (AS (AW l) l.length) l.length).get 2= .cells true (AS (AW l) l.length)by kernel_rfl]at this;obtain⟨rc,e,fr,q1,q2,q3,q4,q5⟩:=this;refine⟨rc,e,fr,q1,q2,q3,λi v hv=>?_,q5⟩;obtain⟨v',z1,z2⟩:=q4 i v hv;refine⟨v',z1,?_⟩;obtain⟨k,_,rfl⟩:=List.mem_map.1 (List.mem_of_getElem? hv);exact D4 _ _ _ _ z2
   ·rw[if_neg h2]at hL;rw[hsame b (by omega)];have h:=hr.blk b L (by show b<2;omega) hL;exact h.monoL hle λhl=>hb7.block _ (h.lt hl)
  ·have b1:b₁<3:=b1;have b2:b₂<3:=b2;have e1:(if b₁=2 then ι6 2 else ι b₁)=some L₁:=e1;have e2:(if b₂=2 then ι6 2 else ι b₂)=some L₂:=e2
   have low:∀b L,b<2->ι b=some L->((mS gl [.cells own (AD l), .cells true (AS (AW l) l.length)]).get b).live->L.block<w.heap.size:=λb L hb hL hl=>by
    rw[hsame b hb]at hl;exact(hr.blk b L (by show b<2;omega) hL).lt hl
   by_cases h1:b₁=2<;>by_cases h2:b₂=2
   ·rw[h1,h2]
   ·rw[if_pos h1]at e1;rw[if_neg h2]at e2;have:=hown2 L₁ e1;have:=low b₂ L₂ (by omega) e2 l2;omega
   ·rw[if_neg h1]at e1;rw[if_pos h2]at e2;have:=hown2 L₂ e2;have:=low b₁ L₁ (by omega) e1 l1;omega
   ·rw[if_neg h1]at e1;rw[if_neg h2]at e2;rw[hsame b₁ (by omega)]at l1;rw[hsame b₂ (by omega)]at l2;exact hr.inj _ _ _ _ (by show b₁<2;omega) (by show b₂<2;omega) e1 e2 l1 l2 g0 e
  ·obtain rfl:g=0:=by omega
   exact hr.glob 0 (by decide)
  ·show(if b=2 then ι6 2 else ι b)=ι b;have hb:b<2\/3<=b:=hb;rw[if_neg (by omega)]
  ·have h1:2<=b:=h1;have h2:b<3:=h2;obtain rfl:b=2:=by omega
   have hL:(if(2:Nat)=2 then ι6 2 else ι 2)=some L:=hL;rw[if_pos rfl]at hL;exact .inl (hown2 L hL)
  ·rw[hsame b hb]at ho;exact ho
noncomputable def sL:Code:=AN Tryd.f35
theorem sM:Tryd.prog.funcs[35]?=some Tryd.f35:=by kernel_rfl
theorem sP:Tryd.f35.body=some sL:=by kernel_rfl
noncomputable def HM(i:Nat):Array Oper:=Iu sL i
noncomputable def gV:Code:= .block 0 (.seq (.region 1 (HM 1) false) (.cond (.tmp 16) (.seq (.region 2 (HM 2) false) .ret) (.seq (.region 3 (HM 3) false) (.cond (.tmp 21) (.seq (.region 4 (HM 4) false) .ret) .skip))))
noncomputable def gW:Code:= .block 1 (.loop (.seq (.region 6 (HM 6) false) (.seq (.cond (.tmp 36) .skip (.exit 1)) (.seq (.block 2 (.seq (.region 7 (HM 7) false) (.seq (.region 8 (HM 8) false) (.cond (.tmp 42) (.seq (.region 9 (HM 9) false) .ret) .skip)))) (.region 10 (HM 10) false)))))
noncomputable def Zj:Code:= .block 4 (.seq (.region 14 (HM 14) false) (.seq (.seq (.region 15 (HM 15) false) (.cond (.tmp 56) (.seq (.region 16 (HM 16) false) .ret) .skip)) (.region 17 (HM 17) true)))
noncomputable def OU:Code:= .block 6 (.seq (.region 21 (HM 21) false) (.seq (.seq (.region 22 (HM 22) false) (.cond (.tmp 85) (.exit 6) .skip)) (.seq (.region 23 (HM 23) false) (.seq (.region 24 (HM 24) false) (.cond (.tmp 107) (.seq (.region 25 (HM 25) false) .ret) .skip)))))
noncomputable def gX:Code:= .seq (.region 26 (HM 26) false) (.cond (.tmp 114) (.seq (.region 27 (HM 27) false) .ret) .skip)
theorem kb:sL= .seq (.region 0 (HM 0) false) (.seq gV (.seq (.seq (.region 5 (HM 5) false) gW) (.seq (.region 11 (HM 11) false) (.seq (.seq (.region 12 (HM 12) false) (.block 3 (.rangeFunc (.tmp 47) #[48] (.region 13 (HM 13) false) Zj)))
  (.seq (.region 18 (HM 18) false) (.seq (.seq (.region 19 (HM 19) false) (.block 5 (.rangeFunc (.tmp 67) #[68] (.region 20 (HM 20) false) OU))) (.seq gX (.seq (.region 28 (HM 28) false) .ret)))))))):=by kernel_rfl
noncomputable def Wv(c op z:Int)(wide reg:Bool):List Value:= [.int .i64 c, .int .i64 op, .int .i64 z, .bool wide, .bool reg]
noncomputable def RY(w:List Value):Value:= .tuple ⟨[.agg ⟨w⟩, .int .i64 0]⟩
noncomputable def hC(w x:List Value)(y:List Value)(b6 b7:Bool)(own8:Bool)(ors:DT):H.Hint where
 ix t:=Nat.beq t 30||Nat.beq t 120
 ld k t _:=cond (Nat.beq t 88) (some (.agg ⟨x⟩)) (cond (Nat.beq t 4 && Nat.beq k 8) (some (.bool true)) none)
 cmp op t:=cond (Nat.beq t 3) (BinOp.rec (motive:=λ_=>Option Bool) none none none none none none none none none none none none none (cond own8 (some false) none) none (some false) (some false) op) none
 ap _:=none
 call f:=cond (Nat.beq f 52) (some (RY w)) (cond (Nat.beq f 37) (some (RY w)) (cond (Nat.beq f 38) (some undef) (cond (Nat.beq f 53) (some (.slice (some ⟨8,0,none⟩) y.length y.length)) none)))
 spec _ _ _ _:=False
 blk:=0
 specM f:=some λargs m v=>ors f args m=some (v,cond (Nat.beq f 53) (m.push (.cells true y)) m)
 eff f m:=cond (Nat.beq f 53) (m.push (.cells true y)) m
 cmpY op t v:=cond (Nat.beq t 3) (BinOp.rec (motive:=λ_=>Option Bool) none none none none none none none none none none none (match v with| .int _ n=>cond (Nat.beq n.toNat 0) (some false) none|_=>none) (match v with| .int _ n=>cond (Nat.beq n.toNat 6) (some b6) (cond (Nat.beq n.toNat 7) (some b7) none)|_=>none) none none none none op) none
noncomputable def pU(L:List Value):Mem:=mS gl [.cells false L]
noncomputable def LF(n:Nat):BI:= .cells true (Hk (AX 1 n))
noncomputable def cI(z:Int):BI:= .cells true [.int .i64 z]
noncomputable def mX(L:List Value)(n:Nat):Mem:=mS gl [.cells false L,LF n,cI 0,cI 0]
noncomputable def tH(L:List Value)(n:Nat)(a c:Int):Mem:=mS gl [.cells false L,LF n,cI 0,cI 0,cI a,cI c]
noncomputable def Pb(L:List Value)(n:Nat)(a c:Int):Mem:=mS gl [.cells false L,LF n,cI 0,cI 0,cI a,cI c, .cells true [AX 1 n]]
noncomputable def sQ(L:List Value)(n:Nat)(a c:Int)(w:List Value):Mem:=mS gl [.cells false L,LF n,cI 0,cI 0,cI a,cI c, .cells true [AX 1 n], .cells true w]
noncomputable def kc(n:Nat):Value:= .slice (some ⟨8,0,none⟩) n n
noncomputable def tI(L:List Value)(n:Nat)(a c:Int)(y:List Value):Mem:=mS gl [.cells false L,LF n,cI 0,cI 0,cI a,cI c, .cells true [AX 1 n], .cells true y, .cells true [kc y.length]]
noncomputable def Jr(L:List Value)(n:Nat)(a c:Int)(y:List Value):Mem:=mS gl [.cells false L,LF n,cI 0,cI 0,cI a,cI c, .cells true [AX 1 n], .cells true y, .cells true [kc y.length], .cells true [AX 1 n]]
noncomputable def sR(L:List Value)(n:Nat)(a c:Int)(y w:List Value):Mem:=mS gl [.cells false L,LF n,cI 0,cI 0,cI a,cI c, .cells true [AX 1 n], .cells true y, .cells true [kc y.length], .cells true [AX 1 n], .cells true w]
noncomputable def ke(ors:DT):H.Hint:=hC [] [] [] false false false ors
noncomputable def sS(n:Nat):Prop:=CC Tryd.prog kp .eql 3 (.int .i64 (Int.ofNat n)) (.int .i64 0)=some (.bool false)
noncomputable def pW(n m:Int):Prop:=CC Tryd.prog kp .gtr 3 (.int .i64 n) (.int .i64 m)=some (.bool false)
theorem ny(x:Nat->Value)(ors:DT)(L:List Value)(n:Nat):Rn (KV (ke ors) Tryd.prog kp (.region 0 (HM 0) false) 116 [1,2,3] (AA 116 (up x [(0,E9 (AX 1 n))])) (pU L)) ((.normal,[B4 2 0,B4 3 0,B4 4 0],mX L n),[]):=⟨by kernel_rfl,by kernel_rfl⟩
theorem gY(x:Nat->Value)(ors:DT)(L:List Value)(n:Nat):Rn (KV (ke ors) Tryd.prog kp gV 116 [1,2,3] (AA 116 (up x [(1,B4 2 0),(2,B4 3 0),(3,B4 4 0)])) (mX L n)) ((.normal,[B4 2 0,B4 3 0,B4 4 0],mX L n),[sS n,pW (Int.ofNat n) 512,pW 0 4]):=⟨by kernel_rfl,by kernel_rfl⟩
theorem gZ(x:Nat->Value)(ors:DT)(L:List Value)(n:Nat):Rn (KV (ke ors) Tryd.prog kp (.seq (.region 5 (HM 5) false) gW) 116 [1,2,3] (AA 116 (up x [(1,B4 2 0),(2,B4 3 0),(3,B4 4 0)])) (mX L n)) ((.normal,[B4 2 0,B4 3 0,B4 4 0],mX L n),[]):=⟨by kernel_rfl,by kernel_rfl⟩
theorem g8(x:Nat->Value)(ors:DT)(L:List Value)(n:Nat):Rn (KV (ke ors) Tryd.prog kp (.region 11 (HM 11) false) 116 [1,2,3,6,7] (AA 116 (up x [(1,B4 2 0),(2,B4 3 0),(3,B4 4 0)])) (mX L n)) ((.normal,[B4 2 0,B4 3 0,B4 4 0,B4 5 0,B4 6 0],tH L n 0 0),[]):=⟨by kernel_rfl,by kernel_rfl⟩
noncomputable def LG:List (Nat×Value):= [(1,B4 2 0),(2,B4 3 0),(3,B4 4 0),(6,B4 5 0),(7,B4 6 0)]
noncomputable def g9:List Value:= [B4 2 0,B4 3 0,B4 4 0,B4 5 0,B4 6 0]
theorem ga(x:Nat->Value)(ors:DT)(L:List Value)(n:Nat)(a c:Int):Rn (KV (ke ors) Tryd.prog kp (.region 12 (HM 12) false) 116 [1,2,3,6,7,47] (AA 116 (up x LG)) (tH L n a c)) ((.normal,g9++ [Pc 7],Pb L n a c),[]):=⟨by kernel_rfl,by kernel_rfl⟩
theorem sT(x:Nat->Value)(ors:DT)(L:List Value)(n:Nat)(a c p cl op z:Int)(wide reg:Bool):Rn (KV (hC (Wv cl op z wide reg) [] [] false false false ors) Tryd.prog kp Zj 116 [] (AA 116 (up x (LG++ [(8, .int .i64 p)]))) (Pb L n a c)) ((.normal,[],sQ L n p cl (Wv cl op z wide reg)),[ors 52 [E9 (AX 1 n), .int .i64 p] (Pb L n a c)=some (RY (Wv cl op z wide reg),Pb L n a c)]):=⟨by kernel_rfl,by kernel_rfl⟩
theorem gd(x:Nat->Value)(ors:DT)(L y:List Value)(n:Nat)(a c:Int):Rn (KV (hC [] [] y false false false ors) Tryd.prog kp (.region 18 (HM 18) false) 116 [1,2,3,6,7,11] (AA 116 (up x LG)) (Pb L n a c)) ((.normal,g9++ [B4 9 0],tI L n a c y),[ors 53 [AX 1 n] (Pb L n a c)=some (kc y.length,(Pb L n a c).push (.cells true y))]):=⟨by kernel_rfl,by kernel_rfl⟩
theorem gg(x:Nat->Value)(ors:DT)(L y:List Value)(n:Nat)(a c:Int):Rn (KV (ke ors) Tryd.prog kp (.region 19 (HM 19) false) 116 [1,2,3,6,7,11,67] (AA 116 (up x (LG++ [(11,B4 9 0)]))) (tI L n a c y)) ((.normal,g9++ [B4 9 0,Pc 10],Jr L n a c y),[]):=⟨by kernel_rfl,by kernel_rfl⟩
noncomputable def bP(c k:Int)(b:Bool):Prop:=CC Tryd.prog kp .neq 3 (.int .i64 c) (.int .i64 k)=some (.bool b)
theorem oA(x:Nat->Value)(ors:DT)(L X y:List Value)(n:Nat)(a c p cl op z:Int)(wide reg:Bool):Rn (KV (hC (Wv cl op z wide reg) X y true true true ors) Tryd.prog kp OU 116 [] (AA 116 (up x (LG++ [(11,B4 9 0),(12, .int .i64 p)]))) (Jr L n a c y)) ((.normal,[],sR L n a c y (Wv cl op z wide reg)),[Hl p n,JD L p X,ors 37 [.agg ⟨X⟩] (Jr L n a c y)=some (RY (Wv cl op z wide reg),Jr L n a c y),bP cl 6 true,bP cl 7 true]):=⟨by kernel_rfl,by kernel_rfl⟩
theorem gh(x:Nat->Value)(ors:DT)(L y:List Value)(n:Nat)(a c:Int):Rn (KV (ke ors) Tryd.prog kp (.region 28 (HM 28) false) 116 [2,3] (AA 116 (up x LG)) (Jr L n a c y)) ((.normal,[B4 3 0,B4 4 0],Jr L n a c y),[]):=⟨by kernel_rfl,by kernel_rfl⟩
theorem oB(x:Nat->Value)(ors:DT)(L y:List Value)(n:Nat)(a:Int):Rn (KV (hC [] [] [] true true false ors) Tryd.prog kp gX 116 [1,2,3,6,7] (AA 116 (up x LG)) (Jr L n a 9 y)) ((.normal,g9,Jr L n a 9 y),[bP 9 7 true]):=⟨by kernel_rfl,by kernel_rfl⟩
noncomputable def VF(p o:Int):Int:=IntKind.wrap .i64 (Int.add (IntKind.wrap .i64 (Int.add p 1)) (IntKind.wrap .i64 o))
noncomputable def pX(t:Int):Prop:=CC Tryd.prog kp .lss 3 (.int .i64 t) (.int .i64 0)=some (.bool false)
noncomputable def pY(t:Int)(n:Nat):Prop:=CC Tryd.prog kp .geq 3 (.int .i64 t) (.int .i64 (Int.ofNat n))=some (.bool false)
noncomputable def qB(y:List Value)(t:Int):Prop:=H.ldOk (.cells true y) (Nat.add 0 (Nat.mul t.toNat 1)) false 1 (.bool true)
noncomputable def Jl(i1 i2 i3 o i5:Int):List Value:= [.int .u8 i1, .int .u8 i2, .int .u8 i3, .int .i16 o, .int .i32 i5]
noncomputable def oD(L:List Value)(n:Nat)(a c:Int)(y w x:List Value):Mem:=mS gl [.cells false L,LF n,cI 0,cI 0,cI a,cI c, .cells true [AX 1 n], .cells true y, .cells true [kc y.length], .cells true [AX 1 n], .cells true w, .cells true x]
theorem oF(x:Nat->Value)(ors:DT)(L y:List Value)(n:Nat)(a c p cl op z i1 i2 i3 o i5:Int)(wide reg:Bool):Rn (KV (hC (Wv cl op z wide reg) (Jl i1 i2 i3 o i5) y false true true ors) Tryd.prog kp OU 116 [] (AA 116 (up x (LG++ [(11,B4 9 0),(12, .int .i64 p)]))) (Jr L n a c y)) ((.normal,[],oD L n a c y (Wv cl op z wide reg) (Jl i1 i2 i3 o i5)),[Hl p n,JD L p (Jl i1 i2 i3 o i5),ors 37 [.agg ⟨Jl i1 i2 i3 o i5⟩] (Jr L n a c y)=some (RY (Wv cl op z wide reg),Jr L n a c y),bP cl 6 false,Hl p n,JD L p (Jl i1 i2 i3 o i5),pX (VF p o),pY (VF p o) y.length,Hl (VF p o) y.length,qB y (VF p o)]):=⟨by kernel_rfl,by kernel_rfl⟩
theorem oH(x:Nat->Value)(ors:DT)(L y:List Value)(n:Nat)(a c p cl op z i1 i2 i3 o i5:Int)(wide reg:Bool):Rn (KV (hC (Wv cl op z wide reg) (Jl i1 i2 i3 o i5) y true false true ors) Tryd.prog kp OU 116 [] (AA 116 (up x (LG++ [(11,B4 9 0),(12, .int .i64 p)]))) (Jr L n a c y)) ((.normal,[],oD L n a c y (Wv cl op z wide reg) (Jl i1 i2 i3 o i5)),[Hl p n,JD L p (Jl i1 i2 i3 o i5),ors 37 [.agg ⟨Jl i1 i2 i3 o i5⟩] (Jr L n a c y)=some (RY (Wv cl op z wide reg),Jr L n a c y),bP cl 6 true,bP cl 7 false,Hl p n,JD L p (Jl i1 i2 i3 o i5),pX (VF p o),pY (VF p o) y.length,Hl (VF p o) y.length,qB y (VF p o)]):=⟨by kernel_rfl,by kernel_rfl⟩
open Classical in
noncomputable def mY(l:List B1):DT:=λf a M=>if f=53/\a= [AX 1 l.length]/\(∃own,M.get 1= .cells own (AD l))/\Fits gl [1] [M.get 1] M then some (.slice (some ⟨M.size,0,none⟩) l.length l.length,M.push (.cells true (AS (AW l) l.length)))else none
theorem eX{l:List B1}{f:FuncId}(h:f≠53)(a:List Value)(M:Mem):mY l f a M=none:=if_neg λg=>h g.1
theorem TI{B0:Nat}{own:Bool}{l:List B1}(hS:DK l){M:Mem}(g1:M.get 1= .cells own (AD l))(hF:Fits gl [1] [M.get 1] M):
  Dr Tryd.prog B0 1 53 [AX 1 l.length] M (.slice (some ⟨M.size,0,none⟩) l.length l.length) (M.push (.cells true (AS (AW l) l.length))):=by
 have hcp:∀o:Bool,okB (.cells o (AD l))/\∀nb,seenB nb (.cells o (AD l)):=λo=>⟨λv hv=>Fx (List.all_eq_true.1 (BL l) v hv),λnb v hv=>EL (List.all_eq_true.1 (BL l) v hv)⟩
 have h1:1<M.size:=hF.lt 1 (by simp)
 have r0:DQ [1] M 0=0:=rfl
 have r1:DQ [1] M 1=1:=rfl
 have r2:DQ [1] M 2=M.size:=rfl
 have hA:∀i:Nat,Nat.blt i 2=true->i=0\/i=1:=λi hi=>by
  have:i<2:=by simpa[Nat.blt_eq]using hi
  omega
 obtain⟨ms,hms⟩:∃ms,mS gl [.cells own (AD l)]=ms:=⟨_,rfl⟩
 obtain⟨ms',hms'⟩:∃ms',mS gl [.cells own (AD l), .cells true (AS (AW l) l.length)]=ms':=⟨_,rfl⟩
 have s1:ms.size=2:=by rw[←hms,Jm];rfl
 have s2:ms'.size=3:=by rw[←hms',Jm];rfl
 have k0:ms.get 0= .cells false gl:=by rw[←hms,Cf,if_pos (by decide),mG_get]
 have k1:ms.get 1= .cells own (AD l):=by rw[←hms,Cf];rfl
 have k0':ms'.get 0= .cells false gl:=by rw[←hms',Cf,if_pos (by decide),mG_get]
 have k1':ms'.get 1= .cells own (AD l):=by rw[←hms',Cf];rfl
 have k2':ms'.get 2= .cells true (AS (AW l) l.length):=by rw[←hms',Cf];rfl
 have hsame:∀b,b<2->ms'.get b=ms.get b:=λb hb=>by
  have:b=0\/b=1:=by omega
  rcases this with rfl|rfl
  ·rw[k0,k0']
  ·rw[k1,k1']
 have hrun:=XC (B0:=B0) (own:=own) hS
 rw[hms,hms']at hrun
 refine Yf (ρ:=DQ [1] M) (A:=λi=>Nat.blt i 2) 1 (λg hg=>⟨hg,by
  obtain rfl:g=0:=by omega
  rfl,by
   obtain rfl:g=0:=by omega
   rfl⟩) hrun ⟨λi hi=>?_,⟨by omega,λ_=>by rw[←hms'];exact Du _,λb hb hl=>?_,λb hb ho=>?_⟩,by rw[←hms];exact Du _,J3 hF.top,λi hi=>?_,λi j hi hj _ _ e=>?_,λi q1 q2=>?_,by show M.size+1=_;omega,λi hi=>?_,λi q1 q2=>?_,λb hb hne=>?_⟩ (.cons ?_ .nil) ?_
 ·rcases hA i hi with rfl|rfl<;>omega
 ·rw[hsame b (by omega)]at hl;exact hl
 ·rw[hsame b (by omega)]at ho;exact ho
 ·rcases hA i hi with rfl|rfl
  ·rw[r0];omega
  ·rw[r1];exact h1
 ·rcases hA i hi with rfl|rfl<;>rcases hA j hj with rfl|rfl
  ·rfl
  ·rw[r0,r1]at e;omega
  ·rw[r0,r1]at e;omega
  ·rfl
 ·obtain rfl:i=2:=by omega
  rw[r2];omega
 ·rcases hA i hi with rfl|rfl
  ·rw[k0,r0,hF.gl0];exact El Cs
  ·rw[k1,r1];have h2:=bsim_ren (ρ:=DQ [1] M) (nb:=2) (hcp own).1 ((hcp own).2 2)
   have e:GU (DQ [1] M) (.cells own (AD l))=M.get 1:=by
    rw[g1];show BI.cells own _=_;rw[CP (BL l)]
   rw[e]at h2;exact h2
 ·right;have:i=0\/i=1\/i=2:=by omega
  rcases this with rfl|rfl|rfl
  ·rw[k0',r0,Mem.get_push_ne _ (by omega),hF.gl0];exact Hz Cs
  ·rw[k1',r1,Mem.get_push_ne _ (by omega),g1];have h2:=Q9 (ρ:=DQ [1] M) (hcp own).1
   have e:GU (DQ [1] M) (.cells own (AD l))= .cells own (AD l):=by
    show BI.cells own _=_;rw[CP (BL l)]
   rw[e]at h2;exact h2
  ·rw[k2',r2,Mem.get_push_same]
   exact Hz λv hv=>by
    obtain⟨i,_,rfl⟩:=List.mem_map.1 hv;exact D4 _
 ·rw[Mem.get_push_ne _ (by omega)]
 ·exact ER (ρ:=DQ [1] M) (i:=1) rfl
 ·show Q8 _ (.slice (some ⟨2,0,none⟩) _ _) _;have:=U1 (ρ:=DQ [1] M) (i:=2) (o:=0) (n:=l.length) (c:=l.length);rw[r2]at this;exact this
theorem VG{l:List B1}:Bc (mY l):=λf a M v M' h=>by
 unfold mY at h
 split at h
 case isFalse=>cases h
 rename_i hc
 simp only[Option.some.injEq,Prod.mk.injEq]at h
 obtain⟨rfl,rfl⟩:=h
 have ht:=hc.2.2.2.top
 refine⟨by show M.size<=M.size+1;omega,λ_=>J3 ht,λb hb hl=>?_,λb hb ho=>?_⟩
 ·rw[Mem.get_push_ne _ (by omega)]at hl;exact hl
 ·rw[Mem.get_push_ne _ (by omega)]at ho;exact ho
theorem kf{l:List B1}(hS:DK l)(B0:Nat):CT Tryd.prog B0 1 (mY l):=by
 refine⟨λf a M v M' h=>(VG f a M v M' h).size,λf a M v M' h=>?_,λf a M v M' h=>?_⟩
 all_goals
  unfold mY at h;split at h
  case isFalse=>cases h
  rename_i hc;obtain⟨rfl,rfl,⟨own,g1⟩,hF⟩:=hc;simp only[Option.some.injEq,Prod.mk.injEq]at h;obtain⟨rfl,rfl⟩:=h
 ·exact TI hS g1 hF
 ·exact hasB (by kernel_rfl)
noncomputable def oC(l:List B1):DT:=Mg Pd (mY l)
theorem Er{l:List B1}:Bc (oC l):=Mh GK VG
theorem Gh{l:List B1}(hS:DK l)(B0:Nat):CT Tryd.prog B0 1 (oC l):=PW (JE B0) (kf hS B0)
theorem kg{l:List B1}{f:FuncId}(h1:f≠37)(h2:f≠38)(h3:f≠52)(h4:f≠53)(a:List Value)(M:Mem):oC l f a M=none:=by
 unfold oC
 rw[Is (LY h1 h2 h3 a M),eX h4]
theorem Gi{l:List B1}{w x y:List Value}{b6 b7 o8:Bool}(f:FuncId)(v:Value)(args:List Value)(m:Mem)(hc:(hC w x y b6 b7 o8 (oC l)).call f=some v)(hs:(hC w x y b6 b7 o8 (oC l)).says f args m v):oC l f args m=some (v,(hC w x y b6 b7 o8 (oC l)).eff f m):=hs
theorem Es{l:List B1}{w x y:List Value}{b6 b7 o8:Bool}(f:FuncId)(hc:(hC w x y b6 b7 o8 (oC l)).call f=none)(a:List Value)(m:Mem):oC l f a m=none:=
 kg (by rintro rfl;cases hc) (by rintro rfl;cases hc) (by rintro rfl;cases hc) (by rintro rfl;cases hc) a m
end
end Go.Proofs.YtgjflcgmieiafaaDoor
namespace Go.Proofs.YtgjflcgmieiafaaDoor
open Go Go.DI Go.DI.Kit Go.Proofs Go.Cmp Go.RowKit
noncomputable section
def Bz(op:Int):Int:=if op=149 then 9 else if op=5 then 7 else if op=24 then 10 else if op=53\/op=85\/op=165\/op=37\/op=173\/op=45 then 6 else if op=113\/op=105\/op=97\/op=121 then 3 else if op=215 then 2 else 1
def Jn(l:List B1)(p:Nat):Int:=match l[p]? with|some x=>Bz x.op|none=>0
theorem Jo{l:List B1}{p:Nat}{x:B1}(h:l[p]?=some x):Jn l p=Bz x.op:=by unfold Jn;rw[h]
theorem gi{x:B1}(h:XX x):∃op z w r,Form x (Wv (Bz x.op) op z w r)/\Bz x.op≠6/\Bz x.op≠7:=by
 cases h with
 | @movI d n hd=>exact⟨11,0,true,false,by rw[show Bz (DE 11 d n).op=1 by rfl];exact VH hd,by rw[show Bz (DE 11 d n).op=1 by rfl];decide,by rw[show Bz (DE 11 d n).op=1 by rfl];decide⟩
 | @andI d n hd=>exact⟨5,0,true,false,by rw[show Bz (DE 5 d n).op=1 by rfl];exact VI hd,by rw[show Bz (DE 5 d n).op=1 by rfl];decide,by rw[show Bz (DE 5 d n).op=1 by rfl];decide⟩
 | @movR d s hd hs=>exact⟨11,0,true,true,by rw[show Bz (Ba 11 d s).op=1 by rfl];exact VJ hd hs,by rw[show Bz (Ba 11 d s).op=1 by rfl];decide,by rw[show Bz (Ba 11 d s).op=1 by rfl];decide⟩
 | @andR d s hd hs=>exact⟨5,0,true,true,by rw[show Bz (Ba 5 d s).op=1 by rfl];exact VK hd hs,by rw[show Bz (Ba 5 d s).op=1 by rfl];decide,by rw[show Bz (Ba 5 d s).op=1 by rfl];decide⟩
 | @low n=>exact⟨11,0,false,false,by rw[show Bz (G3 n).op=1 by rfl];exact Zk,by rw[show Bz (G3 n).op=1 by rfl];decide,by rw[show Bz (G3 n).op=1 by rfl];decide⟩
 |exit=>exact⟨0,0,false,false,by rw[show Bz DC.op=9 by rfl];exact VL,by rw[show Bz DC.op=9 by rfl];decide,by rw[show Bz DC.op=9 by rfl];decide⟩
 | @load z d s o hz hd hs=>
  rcases hz with rfl|rfl|rfl|rfl
  ·exact⟨0,1,false,false,by rw[show Bz (BG 1 d s o).op=3 by rfl];exact RZ hd hs,by rw[show Bz (BG 1 d s o).op=3 by rfl];decide,by rw[show Bz (BG 1 d s o).op=3 by rfl];decide⟩
  ·exact⟨0,2,false,false,by rw[show Bz (BG 2 d s o).op=3 by rfl];exact R1 hd hs,by rw[show Bz (BG 2 d s o).op=3 by rfl];decide,by rw[show Bz (BG 2 d s o).op=3 by rfl];decide⟩
  ·exact⟨0,4,false,false,by rw[show Bz (BG 4 d s o).op=3 by rfl];exact R2 hd hs,by rw[show Bz (BG 4 d s o).op=3 by rfl];decide,by rw[show Bz (BG 4 d s o).op=3 by rfl];decide⟩
  ·exact⟨0,8,false,false,by rw[show Bz (BG 8 d s o).op=3 by rfl];exact R4 hd hs,by rw[show Bz (BG 8 d s o).op=3 by rfl];decide,by rw[show Bz (BG 8 d s o).op=3 by rfl];decide⟩
 | @swap z hz hz1=>
  rcases hz with rfl|rfl|rfl|rfl
  ·omega
  ·exact⟨0,2,false,false,by rw[show Bz (C0 2).op=2 by rfl];exact R6,by rw[show Bz (C0 2).op=2 by rfl];decide,by rw[show Bz (C0 2).op=2 by rfl];decide⟩
  ·exact⟨0,4,false,false,by rw[show Bz (C0 4).op=2 by rfl];exact R7,by rw[show Bz (C0 4).op=2 by rfl];decide,by rw[show Bz (C0 4).op=2 by rfl];decide⟩
  ·exact⟨0,8,false,false,by rw[show Bz (C0 8).op=2 by rfl];exact R8,by rw[show Bz (C0 8).op=2 by rfl];decide,by rw[show Bz (C0 8).op=2 by rfl];decide⟩
theorem gj{x:B1}{o:Int}(h:jf x):∃op z w r,Form (BE x o) (Wv (Bz (BE x o).op) op z w r)/\(Bz (BE x o).op=6\/Bz (BE x o).op=7):=by
 cases h with
 | @jif op d n ho hd=>
  rcases ho with rfl|rfl|rfl|rfl
  ·exact⟨3,0,true,false,by rw[show Bz (BE (Cw 3 d n) o).op=6 by rfl];exact VM hd, .inl rfl⟩
  ·exact⟨5,0,true,false,by rw[show Bz (BE (Cw 5 d n) o).op=6 by rfl];exact VN hd, .inl rfl⟩
  ·exact⟨10,0,true,false,by rw[show Bz (BE (Cw 10 d n) o).op=6 by rfl];exact R9 hd, .inl rfl⟩
  ·exact⟨2,0,true,false,by rw[show Bz (BE (Cw 2 d n) o).op=6 by rfl];exact VO hd, .inl rfl⟩
 | @jifR op ho=>
  rcases ho with rfl|rfl
  ·exact⟨10,0,true,true,by rw[show Bz (BE (Ec 10) o).op=6 by rfl];exact OV, .inl rfl⟩
  ·exact⟨2,0,true,true,by rw[show Bz (BE (Ec 2) o).op=6 by rfl];exact Ra, .inl rfl⟩
 |goto=>exact⟨0,0,false,false,by rw[show Bz (BE Bm o).op=7 by rfl];exact VP, .inr rfl⟩
theorem Kw{l:List B1}{p z:Nat}:∀(k q:Nat) (init:List Nat),Bg l k q=init++ [z]->p∈Bg l k q->p=z\/∃x,l[p]?=some x/\p+QJ x∈Bg l k q
 |0,q,init,h,hp=>by simp[Bg]at hp
 |k+1,q,init,h,hp=>by
  simp only[Bg]at h hp ⊢;cases hx:l[q]? with
  |none=>rw[hx]at hp;simp at hp
  |some x=>
   rw[hx]at h hp;simp only at h hp ⊢;cases hr:Bg l k (q+QJ x)with
   |nil=>
    rw[hr]at h hp;have:p=q:=by simpa using hp
    left;cases init with
    |nil=>simp at h;omega
    |cons a b=>simp at h
   |cons y rest=>
    have hy:y=q+QJ x:=by
     cases k with
     |zero=>simp[Bg]at hr
     |succ k=>
      simp only[Bg]at hr;cases hx2:l[q+QJ x]? with
      |none=>rw[hx2]at hr;simp at hr
      |some x2=>rw[hx2]at hr;simp at hr;exact hr.1.symm
    rcases List.mem_cons.1 hp with e|hp'
    ·subst e;exact .inr ⟨x,hx,by rw[hy];simp⟩
    ·cases init with
     |nil=>rw[hr]at h;simp at h
     |cons a b=>
      have h2:Bg l k (q+QJ x)=b++ [z]:=by
       simp only[List.cons_append,List.cons.injEq]at h;exact h.2
      rcases Kw k (q+QJ x) b h2 hp' with g|⟨x',g1,g2⟩
      ·exact .inl g
      ·exact .inr ⟨x',g1,by rw[←hr];exact List.mem_cons_of_mem _ g2⟩
theorem XD{l:List B1}(hS:DK l){p:Nat}{n:Int}(h:l[p]?=some (Bj n))(hp:p∈AW l):p+2<l.length:=by
 obtain⟨init,z,h1,h2⟩:=hS.last
 rcases Kw l.length 0 init h1 hp with rfl|⟨x,hx,hm⟩
 ·rw[h2]at h;simp[DC,Bj]at h
 ·rw[h]at hx;cases hx;exact IL hm
theorem kh{l:List B1}(hS:DK l){p:Nat}(hp:p∈AW l):∃op z w r,OW false (AD l) l.length (p:Int) (Wv (Jn l p) op z w r):=by
 rcases hS.found p hp with⟨y,hy,h1⟩|⟨y,o,q,hq,hy,h1,_,_,_⟩|⟨n,h1,h2⟩
 ·obtain⟨op,z,w,r,hf,_,_⟩:=gi hy;exact⟨op,z,w,r,by rw[Jo h1];exact hf.al false l p h1⟩
 ·obtain⟨op,z,w,r,hf,_⟩:=gj (o:=o) hy;exact⟨op,z,w,r,by rw[Jo h1];exact hf.al false l p h1⟩
 ·refine⟨0,0,false,false,?_⟩;rw[Jo h1,show Bz (Bj n).op=10 by rfl];have:=hS.most;exact NF.2.2 false l p h1 h2 (XD hS h1 hp) (by omega)
theorem gn:okB (.cells false gl)/\∀nb,seenB nb (.cells false gl):=by
 constructor
 ·intro v hv;simp only[gl,List.mem_cons,List.not_mem_nil,or_false]at hv;rcases hv with rfl|rfl|rfl|rfl<;>rfl
 ·intro nb v hv;simp only[gl,List.mem_cons,List.not_mem_nil,or_false]at hv;rcases hv with rfl|rfl|rfl|rfl<;>rfl
theorem VQ{B0:Nat}{w0 W:World}{ι ι':Ren}{ss ex:List BI}(hs:Go.DI.St B0 w0 ι' (mS gl (ss++ex)) W)(hok:∀s∈ss,okB s/\seenB (1+ss.length) s)(he:∀b,b<1+ss.length->ι' b=ι b)(hf:∀b,1+ss.length<=b->ι b=none):Go.DI.St B0 w0 ι (mS gl ss) W:=by
 have h:=hs.cut (z:=1+ss.length) (by rw[Jm,List.length_append];omega) (by omega) (mz:=mS gl ss) (Jm ss) (Du ss) (λb hb=>?_) (λb hb=>?_)
 ·rw[ZN hf he]at h;exact h
 ·rw[Cf,Cf];by_cases h0:b<1
  ·rw[if_pos h0,if_pos h0]
  ·rw[if_neg h0,if_neg h0,List.getElem?_append_left (by omega)]
 ·rw[Cf];by_cases h0:b<1
  ·obtain rfl:b=0:=by omega
   rw[if_pos h0,mG_get];exact⟨gn.1,gn.2 _⟩
  ·rw[if_neg h0];have hb':b - 1<ss.length:=by omega
   rw[List.getElem?_append_left hb',List.getElem?_eq_getElem hb'];exact hok _ (List.getElem_mem hb')
theorem CQ{c:List Value}(o:Bool)(h:c.all Di=true)(nb:Nat):okB (.cells o c)/\seenB nb (.cells o c):=⟨λv hv=>Fx (List.all_eq_true.1 h v hv),λv hv=>EL (List.all_eq_true.1 h v hv)⟩
theorem LZ{v:Value}{nb:Nat}(h1:bL v=true)(h2:Go.DI.Kit.seenV nb v=true):okB (.cells true [v])/\seenB nb (.cells true [v]):=⟨λu hu=>by obtain rfl:=List.mem_singleton.1 hu;exact h1,λu hu=>by obtain rfl:=List.mem_singleton.1 hu;exact h2⟩
theorem VR(n nb:Nat)(h:2<=nb):okB (LF n)/\seenB nb (LF n):=by
 constructor
 ·intro u hu;have hu:u∈ [Value.slice none 0 0,AX 1 n]:=hu;simp only[List.mem_cons,List.not_mem_nil,or_false]at hu;rcases hu with rfl|rfl<;>rfl
 ·intro u hu;have hu:u∈ [Value.slice none 0 0,AX 1 n]:=hu;simp only[List.mem_cons,List.not_mem_nil,or_false]at hu;rcases hu with rfl|rfl
  ·rfl
  ·show Nat.blt 1 nb=true;simp[Nat.blt_eq];omega
def mZ(l:List B1)(a c:Int):List BI:= [.cells false (AD l),LF l.length,cI 0,cI 0,cI a,cI c, .cells true [AX 1 l.length]]
def kj(l:List B1)(a c:Int):List BI:= [.cells false (AD l),LF l.length,cI 0,cI 0,cI a,cI c, .cells true [AX 1 l.length], .cells true (AS (AW l) l.length), .cells true [kc (AS (AW l) l.length).length], .cells true [AX 1 l.length]]
theorem kl(l:List B1)(a c:Int):∀s∈mZ l a c,okB s/\seenB (1+(mZ l a c).length) s:=by
 intro s hs
 simp only[mZ,List.mem_cons,List.not_mem_nil,or_false]at hs
 rcases hs with rfl|rfl|rfl|rfl|rfl|rfl|rfl
 ·exact CQ _ (BL l) _
 ·exact VR _ _ (by show 2<=8;decide)
 ·exact CQ _ rfl _
 ·exact CQ _ rfl _
 ·exact CQ _ rfl _
 ·exact CQ _ rfl _
 ·exact LZ rfl rfl
theorem ko(l:List B1)(a c:Int):∀s∈kj l a c,okB s/\seenB (1+(kj l a c).length) s:=by
 intro s hs
 simp only[kj,List.mem_cons,List.not_mem_nil,or_false]at hs
 rcases hs with rfl|rfl|rfl|rfl|rfl|rfl|rfl|rfl|rfl|rfl
 ·exact CQ _ (BL l) _
 ·exact VR _ _ (by show 2<=11;decide)
 ·exact CQ _ rfl _
 ·exact CQ _ rfl _
 ·exact CQ _ rfl _
 ·exact CQ _ rfl _
 ·exact LZ rfl rfl
 ·exact Zl _ _ _
 ·exact LZ rfl rfl
 ·exact LZ rfl rfl
theorem K6(l:List B1)(a c:Int):∀s∈mZ l a c,∃o c,s= .cells o c:=by
 intro s hs
 simp only[mZ,List.mem_cons,List.not_mem_nil,or_false]at hs
 rcases hs with rfl|rfl|rfl|rfl|rfl|rfl|rfl<;>exact⟨_,_,rfl⟩
theorem ET(l:List B1)(a c:Int):∀s∈kj l a c,∃o c,s= .cells o c:=by
 intro s hs
 simp only[kj,List.mem_cons,List.not_mem_nil,or_false]at hs
 rcases hs with rfl|rfl|rfl|rfl|rfl|rfl|rfl|rfl|rfl|rfl<;>exact⟨_,_,rfl⟩
def VS{l:List B1}(pre:List (Pl l)):Int:=match pre.getLast? with|some x=>(x.1:Int)|none=>0
def VT{l:List B1}(pre:List (Pl l)):Int:=match pre.getLast? with|some x=>Jn l x.1|none=>0
theorem TJ{l:List B1}(pre:List (Pl l))(x:Pl l):VS (pre++ [x])=(x.1:Int):=by unfold VS;rw[List.getLast?_append];rfl
theorem NG{l:List B1}(pre:List (Pl l))(x:Pl l):VT (pre++ [x])=Jn l x.1:=by unfold VT;rw[List.getLast?_append];rfl
theorem kq{n:Nat}(h:0<n):sS n:=by unfold sS;simp[CC,CA,CN];omega
theorem Zm{a b:Int}(h:a<=b):pW a b:=by unfold pW;simp[CC,CA,CN];omega
theorem VU{a b:Int}(h:a≠b):bP a b true:=by unfold bP;simp[CC,CA,CN];omega
theorem gp{a b:Int}(h:a=b):bP a b false:=by unfold bP;simp[CC,CA,CN];omega
theorem NH(c op z:Int)(w r:Bool):(Wv c op z w r).all Fs=true:=rfl
theorem oI{l:List B1}{own:Bool}{M:Mem}{p:Int}{w:List Value}(ht:M.top)(h0:M.get 0= .cells false gl)(h1:1<M.size)(gc:M.get 1= .cells own (AD l))(h:OW own (AD l) l.length p w)(hw:w.all Fs=true):oC l 52 [E9 (AX 1 l.length), .int .i64 p] M=some (RY w,M):=
 PX (ks ht h0 (by omega) h1 (by decide) gc h hw)
theorem gq{l:List B1}{M:Mem}{x:B1}{w:List Value}(ht:M.top)(h0:M.get 0= .cells false gl)(h1:1<=M.size)(h:OX x w)(hw:w.all Fs=true):oC l 37 [.agg ⟨AP x⟩] M=some (RY w,M):=
 PX (ku ht h0 h1 h hw)
theorem oJ{l:List B1}{own:Bool}{M:Mem}(ht:M.top)(h0:M.get 0= .cells false gl)(h1:1<M.size)(gc:M.get 1= .cells own (AD l)):oC l 53 [AX 1 l.length] M=some (.slice (some ⟨M.size,0,none⟩) l.length l.length,M.push (.cells true (AS (AW l) l.length))):=by
 unfold oC
 rw[Is (LY (by decide) (by decide) (by decide) _ _)]
 exact if_pos ⟨rfl,rfl,⟨own,gc⟩,VV ht h0 (by omega) h1 (by decide) gc⟩
def tJ:Oper:={dst:=some 8,op:= .assign (.tmp 48),type:=3,pos:= "shape.go:94",after:= #[],guard:=none}
def tK:Oper:={dst:=some 12,op:= .assign (.tmp 68),type:=3,pos:= "shape.go:102",after:= #[],guard:=none}
theorem kv:HM 13= #[tJ]:=by kernel_rfl
theorem ky:HM 20= #[tK]:=by kernel_rfl
theorem TK(l:List B1)(a c:Int):(Pb (AD l) l.length a c).get 0= .cells false gl/\(Pb (AD l) l.length a c).get 1= .cells false (AD l)/\(Pb (AD l) l.length a c).get 7= .cells true [AX 1 l.length]/\(Pb (AD l) l.length a c).size=8:=⟨by kernel_rfl,by kernel_rfl,by kernel_rfl,by kernel_rfl⟩
theorem Zn(l:List B1)(a c:Int)(y:List Value):(Jr (AD l) l.length a c y).get 0= .cells false gl/\(Jr (AD l) l.length a c y).get 1= .cells false (AD l)/\(Jr (AD l) l.length a c y).get 10= .cells true [AX 1 l.length]/\(Jr (AD l) l.length a c y).size=11:=⟨by kernel_rfl,by kernel_rfl,by kernel_rfl,by kernel_rfl⟩
section
variable{B0:Nat}{w0 W:World}{ι:Ren}{l:List B1}{x1:Nat->Value}{a1:Act}
theorem sU(hS:DK l)(x:Pl l){k d:Nat}{a c:Int}(hs:Go.DI.St B0 w0 ι (Pb (AD l) l.length a c) W) (ht:BV ι 116 (AA 116 (up x1 (LG++ [(8, .int .i64 (x.1:Int))]))) a1) {Q:Exit->Act->World->Prop} (hx:¬LetsOut Q)
  (hQ:∀a' W',Eg W W'->Go.DI.St B0 w0 ι (Pb (AD l) l.length (x.1:Int) (Jn l x.1)) W'->Q .normal a' W'):Zj.wpIn (FR k) d Tryd.prog Q a1 W:=by
 obtain⟨g0,g1,_,gz⟩:=TK l a c
 obtain⟨op,z,w,r,hal⟩:=kh hS x.2
 have hrun:=sT x1 (oC l) (AD l) l.length a c (x.1:Int) (Jn l x.1) op z w r
 refine Ft Br hK FZ (Gh hS B0) Er Gi Es (by kernel_rfl) hrun.1 hrun.2 (AB (oI (Du _) g0 (by rw[gz];decide) g1 hal (NH ..)) A8) hs (Ch (K6 l a c)) ht hx λι5 a5 W5 t5 hs5 ht5 hv5 hd5 hk5 hkp5=>?_
 exact hQ a5 W5 hkp5 (VQ (ss:=mZ l (x.1:Int) (Jn l x.1)) (ex:= [.cells true (Wv (Jn l x.1) op z w r)]) hs5 (kl l _ _) (λb hb=>hk5 b (by rw[gz];exact hb)) (λb hb=>hs.fresh b (by rw[gz];exact hb)))
theorem sV(hS:DK l)(x:Pl l){k d:Nat}{a c:Int} (hs:Go.DI.St B0 w0 ι (Jr (AD l) l.length a c (AS (AW l) l.length)) W) (ht:BV ι 116 (AA 116 (up x1 (LG++ [(11,B4 9 0),(12, .int .i64 (x.1:Int))]))) a1) {Q:Exit->Act->World->Prop} (hx:¬LetsOut Q)
  (hQ:∀a' W',Eg W W'->Go.DI.St B0 w0 ι (Jr (AD l) l.length a c (AS (AW l) l.length)) W'->Q .normal a' W'):OU.wpIn (FR k) d Tryd.prog Q a1 W:=by
 obtain⟨g0,g1,_,gz⟩:=Zn l a c (AS (AW l) l.length)
 have hm:=hS.most
 have hfin:∀(ex:List BI) (ι5:Ren) (a5:Act) (W5:World),Go.DI.St B0 w0 ι5 (mS gl (kj l a c++ex)) W5->(∀b,b< (Jr (AD l) l.length a c (AS (AW l) l.length)).size->ι5 b=ι b)->Eg W W5->Q .normal a5 W5:=λex ι5 a5 W5 hs5 hk5 hkp5=>
  hQ a5 W5 hkp5 (VQ (ss:=kj l a c) (ex:=ex) hs5 (ko l _ _) (λb hb=>hk5 b (by rw[gz];exact hb)) (λb hb=>hs.fresh b (by rw[gz];exact hb)))
 have nojump:∀(y:B1) (cl op z:Int) (w r:Bool),l[x.1]?=some y->OX y (Wv cl op z w r)->cl≠6->cl≠7->OU.wpIn (FR k) d Tryd.prog Q a1 W:=λy cl op z w r h1 hof n6 n7=>by
  have hrun:=oA x1 (oC l) (AD l) (AP y) (AS (AW l) l.length) l.length a c (x.1:Int) cl op z w r;exact Ft Br hK FZ (Gh hS B0) Er Gi Es (by kernel_rfl) hrun.1 hrun.2 (AB (CX h1) (AB (CY h1) (AB (gq (Du _) g0 (by rw[gz];decide) hof (NH ..)) (AB (VU n6) (AB (VU n7) A8))))) hs (Ch (ET l a c)) ht hx λι5 a5 W5 t5 hs5 ht5 hv5 hd5 hk5 hkp5=>hfin [.cells true (Wv cl op z w r)] ι5 a5 W5 hs5 hk5 hkp5
 rcases hS.found x.1 x.2 with⟨y,hy,h1⟩|⟨y,o,q,hq,hy,h1,ho1,ho2,hqe⟩|⟨n,h1,h2⟩
 ·obtain⟨op,z,w,r,hf,n6,n7⟩:=gi hy;exact nojump y _ op z w r h1 hf.of n6 n7
 ·obtain⟨op,z,w,r,hf,h67⟩:=gj (o:=o) hy;have hql:q<l.length:=IL hq;have hpl:x.1<l.length:=IL x.2
  have ht0:VF (x.1:Int) o=(q:Int):=by
   unfold VF;have e1:IntKind.wrap .i64 (Int.add (x.1:Int) 1)=((x.1+1:Nat):Int):=TL (by omega);have e2:IntKind.wrap .i64 o=o:=wrap_i64 ⟨by omega,by omega⟩;rw[e1,e2]
   have e3:Int.add ((x.1+1:Nat):Int) o=(q:Int):=by
    show((x.1+1:Nat):Int)+o=q;omega
   rw[e3];exact wrap_i64 ⟨by omega,by omega⟩
  have hy':AP (BE y o)=Jl (BE y o).op (BE y o).dst (BE y o).src o (BE y o).imm:=rfl;have hixp:=CX h1;have hldp:=CY h1;have hofr:OX (BE y o) (Wv (Bz (BE y o).op) op z w r):=hf.of;have hcall:=gq (l:=l) (M:=Jr (AD l) l.length a c (AS (AW l) l.length)) (Du _) g0 (by rw[gz];decide) hofr (NH ..);rw[hy']at hldp hcall;have hlen:(AS (AW l) l.length).length=l.length:=GL _ _
  have tail:∀q'∈ [Hl (x.1:Int) l.length,JD (AD l) (x.1:Int) (Jl (BE y o).op (BE y o).dst (BE y o).src o (BE y o).imm),pX (VF (x.1:Int) o),pY (VF (x.1:Int) o) (AS (AW l) l.length).length,Hl (VF (x.1:Int) o) (AS (AW l) l.length).length,qB (AS (AW l) l.length) (VF (x.1:Int) o)],q':=by
   refine AB hixp (AB hldp (AB ?_ (AB ?_ (AB ?_ (AB ?_ A8)))))
   ·rw[ht0];unfold pX;simp[CC,CA,CN] <;>omega
   ·rw[ht0,hlen];unfold pY;simp[CC,CA,CN] <;>omega
   ·rw[ht0,hlen];exact⟨by omega,by omega⟩
   ·rw[ht0];show H.blkNth (.cells true (AS (AW l) l.length)) (Nat.add 0 (Nat.mul (q:Int).toNat 1))=some (.bool true)
    have e:Nat.add 0 (Nat.mul (q:Int).toNat 1)=q:=by
     show 0+(q:Int).toNat*1=q;simp
    rw[e];show(AS (AW l) l.length)[q]?=_;rw[GM,if_pos hql];simp[hq]
  rcases h67 with h6|h7
  ·have hrun:=oF x1 (oC l) (AD l) (AS (AW l) l.length) l.length a c (x.1:Int) (Bz (BE y o).op) op z (BE y o).op (BE y o).dst (BE y o).src o (BE y o).imm w r;exact Ft Br hK FZ (Gh hS B0) Er Gi Es (by kernel_rfl) hrun.1 hrun.2 (AB hixp (AB hldp (AB hcall (AB (gp h6) tail)))) hs (Ch (ET l a c)) ht hx λι5 a5 W5 t5 hs5 ht5 hv5 hd5 hk5 hkp5=>hfin [.cells true (Wv (Bz (BE y o).op) op z w r), .cells true (Jl (BE y o).op (BE y o).dst (BE y o).src o (BE y o).imm)] ι5 a5 W5 hs5 hk5 hkp5
  ·have hrun:=oH x1 (oC l) (AD l) (AS (AW l) l.length) l.length a c (x.1:Int) (Bz (BE y o).op) op z (BE y o).op (BE y o).dst (BE y o).src o (BE y o).imm w r;exact Ft Br hK FZ (Gh hS B0) Er Gi Es (by kernel_rfl) hrun.1 hrun.2 (AB hixp (AB hldp (AB hcall (AB (VU (by rw[h7];decide)) (AB (gp h7) tail))))) hs (Ch (ET l a c)) ht hx λι5 a5 W5 t5 hs5 ht5 hv5 hd5 hk5 hkp5=>hfin [.cells true (Wv (Bz (BE y o).op) op z w r), .cells true (Jl (BE y o).op (BE y o).dst (BE y o).src o (BE y o).imm)] ι5 a5 W5 hs5 hk5 hkp5
 ·exact nojump _ 10 0 0 false false h1 NF.1 (by decide) (by decide)
end
theorem Fi{ss:List BI}(h:ss.all (λb=>match b with| .cells _ _=>true|_=>false)=true):∀s∈ss,∃o c,s=BI.cells o c:=by
 intro s hs
 have:=List.all_eq_true.1 h s hs
 cases s<;>simp at this
 exact⟨_,_,rfl⟩
theorem Zo{B0:Nat}{own:Bool}{l:List B1}(hS:DK l):Dr Tryd.prog B0 1 35 [E9 (AX 1 l.length)] (mS gl [.cells own (AD l)]) (.tuple ⟨[.int .i64 0, .int .i64 0]⟩) (mS gl [.cells own (AD l)]):=by
 intro ι w args' hr hf hargs
 have hm:=hS.most
 have hpos:0<l.length:=List.length_pos_iff.2 hS.pos
 obtain⟨ι0,hι0⟩:∃ι0,(ι.sub id λi=>Nat.blt i (1+ [BI.cells false (AD l)].length))=ι0:=⟨_,rfl⟩
 have hno:∀b,2<=b->ι0 b=none:=λb hb=>by
  rw[←hι0];show(if Nat.blt b 2=true then ι b else none)=none;rw[if_neg (by simp[Nat.blt_eq];omega)]
 have hr0:Rel B0 1 ι0 (pU (AD l)) w:=by
  rw[←hι0];exact VW (Rb hr) (λs hs=>by obtain rfl:=List.mem_singleton.1 hs;exact CQ _ (BL l) _)
 have hs0:Go.DI.St B0 w ι0 (pU (AD l)) w:=⟨hr0,λb hb=>hno b hb,Below.refl _ _,λb L hL ho=>by
  exfalso;unfold pU at ho;rw[Cf]at ho;split at ho
  ·rename_i h0;obtain rfl:b=0:=by omega
   rw[mG_get]at ho;cases ho
  ·rcases hj:b - 1 with _|j
   ·rw[hj]at ho;cases ho
   ·rw[hj]at ho;have ho:((mG gl).get b).own=true:=ho;rw[mG_top gl b (by rw[mG_size];omega)]at ho;cases ho⟩
 have hargs0:B7 ι0 [E9 (AX 1 l.length)] args':=by
  cases hargs with
  |cons h t=>
   cases t;refine .cons ?_ .nil;have h1:PK id (λi=>Nat.blt i 2) (E9 (AX 1 l.length)) (E9 (AX 1 l.length)):=JZ (.cons ((EP _ _).sim _ _) (.cons (ER (ρ:=id) (i:=1) rfl) .nil));rw[←hι0];exact h1 ι _ h
 have hst:=IJ (nt:=116) hargs0
 have e0:AA 116 (CM [E9 (AX 1 l.length)])=AA 116 (up (CM [E9 (AX 1 l.length)]) [(0,E9 (AX 1 l.length))]):=by rw[up_self _ _ (by intro q hq;obtain rfl:=List.mem_singleton.1 hq;rfl)]
 have hst:BV ι0 116 (AA 116 (up (CM [E9 (AX 1 l.length)]) [(0,E9 (AX 1 l.length))])) {tmps:=args'.toArray++Array.replicate (Tryd.f35.ntmps - args'.toArray.size) undef,defers:= []}:=by
  rw[←e0];exact hst
 refine(callsIn_wide (n:=1)).1 (callsIn_of_wp_marks sM sP trivial ?_ rfl)
 rw[kb]
 refine wpIn_seq (DN Br hK FZ (Gh hS B0) Er Gi Es (ny _ (oC l) (AD l) l.length).1 (ny _ (oC l) (AD l) l.length).2 A8 hs0 (Ch (Fi rfl)) hst λι1 a1 W1 t1 hs1 ht1 hv1 hd1 _ hkp1=>?_)
 simp only[Ex.to,Exit.then]
 obtain⟨x1,hx1⟩:=ht1.full _ (GH hv1)
 refine wpIn_seq (DN Br hK FZ (Gh hS B0) Er Gi Es (gY x1 (oC l) (AD l) l.length).1 (gY x1 (oC l) (AD l) l.length).2 (AB (kq hpos) (AB (Zm (by show(l.length:Int)<=512;omega)) (AB (Zm (by decide)) A8))) hs1 (Ch (Fi rfl)) hx1 λι2 a2 W2 t2 hs2 ht2 hv2 hd2 _ hkp2=>?_)
 simp only[Ex.to,Exit.then]
 obtain⟨x2,hx2⟩:=ht2.full _ (GH hv2)
 refine wpIn_seq (DN Br hK FZ (Gh hS B0) Er Gi Es (gZ x2 (oC l) (AD l) l.length).1 (gZ x2 (oC l) (AD l) l.length).2 A8 hs2 (Ch (Fi rfl)) hx2 λι3 a3 W3 t3 hs3 ht3 hv3 hd3 _ hkp3=>?_)
 simp only[Ex.to,Exit.then]
 obtain⟨x3,hx3⟩:=ht3.full _ (GH hv3)
 refine wpIn_seq (DN Br hK FZ (Gh hS B0) Er Gi Es (g8 x3 (oC l) (AD l) l.length).1 (g8 x3 (oC l) (AD l) l.length).2 A8 hs3 (Ch (Fi rfl)) hx3 λι4 a4 W4 t4 hs4 ht4 hv4 hd4 _ hkp4=>?_)
 simp only[Ex.to,Exit.then]
 obtain⟨x4,hx4⟩:=ht4.full LG (GH hv4)
 refine wpIn_seq (wpIn_seq (DN Br hK FZ (Gh hS B0) Er Gi Es (ga x4 (oC l) (AD l) l.length 0 0).1 (ga x4 (oC l) (AD l) l.length 0 0).2 A8 hs4 (Ch (Fi rfl)) hx4 λι5 a5 W5 t5 hs5 ht5 hv5 hd5 _ hkp5=>?_))
 simp only[Ex.to,Exit.then]
 have hat5:=GH hv5
 have h47:t5.at 47=Pc 7:=hat5 (47,Pc 7) (by simp[g9])
 have hkn5:∀p∈LG,t5.at p.1=p.2:=λp hp=>hat5 p (by
  simp only[LG,List.mem_cons,List.not_mem_nil,or_false]at hp;rcases hp with rfl|rfl|rfl|rfl|rfl<;>simp[g9])
 obtain⟨Lb,hLb,hfun⟩:=Pe ht5 h47
 have hrel93:∀(a c:Int) (W:World),Go.DI.St B0 w ι5 (Pb (AD l) l.length a c) W->Rel B0 1 (i93 ι5 7) (HQ (AD l) l.length) W:=λa c W h=>by
  obtain⟨g0,g1,g7,gz⟩:=TK l a c;exact Zp h (by rw[gz];decide) (by rw[gz];decide) (by decide) g0 g1 g7
 have hi2:i93 ι5 7 2=some Lb:=by rw[JF ι5 7 2 (by decide)];exact hLb
 have hsz5:∀p,p<116->p<a5.tmps.size:=λp hp=>by rw[ht5.1];exact hp
 refine wpIn_block (Ml (m0:=Pb (AD l) l.length 0 0) (ι:=ι5) hs5 (Ds:= []) (λD hD=>by simp at hD) (by decide) hfun (enters_of eY (by kernel_rfl) eZ) (JG (hrel93 0 0 W5 hs5) hi2 hS) (λh k=>Zq h k) (λW k o o' _ hk hno' _=>Zr W k o o' hk hno') (λx=>rfl)
  (λpre=>Pb (AD l) l.length (VS pre) (VT pre)) rfl (λpre b hb=>Fy (K6 l _ _) b hb)
  (λx=>({tmps:=a5.tmps.setIfInBounds 48 (.int .i64 (x.1:Int)),defers:= []}:Act).put (some 8) (.int .i64 (x.1:Int))) ?_ ?_ (λpre W W' h _=>hrel93 _ _ W' h) ?_)
 ·intro k x W K' hK';rw[kv];refine Iv (op:=tJ) (x:= .tmp 48) rfl rfl ?_;have ez:((#[48]:Array Tmp).zip (Rc l x)).foldl (λt (p,v)=>t.setIfInBounds p v) a5.tmps=a5.tmps.setIfInBounds 48 (.int .i64 (x.1:Int)):=by simp[Rc]
  rw[ez]
  have:({tmps:=a5.tmps.setIfInBounds 48 (.int .i64 (x.1:Int)),defers:= []}:Act).eval (.tmp 48)= .int .i64 (x.1:Int):=by
   show(a5.tmps.setIfInBounds 48 (.int .i64 (x.1:Int))).getD 48 undef=_;rw[DU,if_pos ⟨rfl,hsz5 48 (by decide)⟩]
  rw[this];exact hK'
 ·intro k pre x W Q' hx' hst' hQ'
  have ht6:BV ι5 116 ((t5.set 48 (.int .i64 (x.1:Int))).set 8 (.int .i64 (x.1:Int))) ((({tmps:=a5.tmps.setIfInBounds 48 (.int .i64 (x.1:Int)),defers:= []}:Act)).put (some 8) (.int .i64 (x.1:Int))):=
   BV.putD (n:=116) (dst:=some 8) (BV.setI (N:=116) ht5 (by decide) (.int _ _)) rfl (.int _ _)
  obtain⟨x6,hx6⟩:=ht6.full (LG++ [(8, .int .i64 (x.1:Int))]) (by
   intro q hq;rcases List.mem_append.1 hq with hq|hq
   ·have hne:q.1≠8/\q.1≠48:=by
     simp only[LG,List.mem_cons,List.not_mem_nil,or_false]at hq;rcases hq with rfl|rfl|rfl|rfl|rfl<;>exact⟨by simp,by simp⟩
    rw[AE.at_set_ne _ hne.1,AE.at_set_ne _ hne.2];exact hkn5 q hq
   ·obtain rfl:=List.mem_singleton.1 hq;exact AE.at_set_same _ _ _)
  refine sU hS x hst' hx6 hx' λa' W' hk hst2=>hQ' a' W' hk ?_;rw[TJ,NG];exact hst2
 ·intro D1 xs W hD1 hxs hst' hmk;have hxs:xs.map Subtype.val=AW l:=hxs;obtain⟨init,pz,hl1,hl2⟩:=hS.last
  have hlast:∃a,VT xs=9/\VS xs=a:=by
   refine⟨_,?_,rfl⟩;have hxs2:=hxs.trans hl1;have hne:xs≠ []:=by rintro rfl;simp at hxs2
   obtain⟨ys,z,rfl⟩:∃ys z,xs=ys++ [z]:=⟨xs.dropLast,xs.getLast hne,(List.dropLast_concat_getLast hne).symm⟩;rw[NG];rw[List.map_append]at hxs2
   have hz:z.1=pz:=by
    have:=congrArg List.getLast? hxs2;rw[List.getLast?_append,List.getLast?_append]at this;simpa using this
   rw[hz,Jo hl2];rfl
  obtain⟨aa,hc9,haa⟩:=hlast;rw[hc9,haa]at hst';simp only[Exit.inBlock,Exit.then];have ht7:BV ι5 116 t5 {a5 with defers:={target:= .collected D1,args:= #[]}::a5.defers}:=ht5;obtain⟨x7,hx7⟩:=ht7.full LG hkn5;obtain⟨g30,g31,g37,g3z⟩:=TK l aa 9;have hylen:(AS (AW l) l.length).length=l.length:=GL _ _
  have hst69:oC l 53 [AX 1 l.length] (Pb (AD l) l.length aa 9)=some (kc (AS (AW l) l.length).length,(Pb (AD l) l.length aa 9).push (.cells true (AS (AW l) l.length))):=by
   rw[oJ (own:=false) (M:=Pb (AD l) l.length aa 9) (Du _) g30 (by rw[g3z];decide) g31,g3z,hylen];rfl
  refine wpIn_seq (DN Br hK FZ (Gh hS B0) Er Gi Es (gd x7 (oC l) (AD l) (AS (AW l) l.length) l.length aa 9).1 (gd x7 (oC l) (AD l) (AS (AW l) l.length) l.length aa 9).2 (AB hst69 A8) hst' (Ch (K6 l aa 9)) hx7 λι8 a8 W8 t8 hs8 ht8 hv8 hd8 _ hkp8=>?_);simp only[Ex.to,Exit.then];obtain⟨x8,hx8⟩:=ht8.full (LG++ [(11,B4 9 0)]) (GH hv8);refine wpIn_seq (wpIn_seq (DN Br hK FZ (Gh hS B0) Er Gi Es (gg x8 (oC l) (AD l) (AS (AW l) l.length) l.length aa 9).1 (gg x8 (oC l) (AD l) (AS (AW l) l.length) l.length aa 9).2 A8 hs8 (Ch (Fi rfl)) hx8 λι9 a9 W9 t9 hs9 ht9 hv9 hd9 _ hkp9=>?_));simp only[Ex.to,Exit.then];have hat9:=GH hv9;have h67:t9.at 67=Pc 10:=hat9 (67,Pc 10) (by simp[g9])
  have hkn9:∀p∈LG++ [(11,B4 9 0)],t9.at p.1=p.2:=λp hp=>hat9 p (by
   simp only[LG,List.cons_append,List.nil_append,List.mem_cons,List.not_mem_nil,or_false]at hp;rcases hp with rfl|rfl|rfl|rfl|rfl|rfl<;>simp[g9])
  obtain⟨Lb9,hLb9,hfun9⟩:=Pe ht9 h67
  have hrel9:∀(W:World),Go.DI.St B0 w ι9 (Jr (AD l) l.length aa 9 (AS (AW l) l.length)) W->Rel B0 1 (i93 ι9 10) (HQ (AD l) l.length) W:=λW h=>by
   obtain⟨g0,g1,g7,gz⟩:=Zn l aa 9 (AS (AW l) l.length);exact Zp h (by rw[gz];decide) (by rw[gz];decide) (by decide) g0 g1 g7
  have hi9:i93 ι9 10 2=some Lb9:=by rw[JF ι9 10 2 (by decide)];exact hLb9
  have hsz9:∀p,p<116->p<a9.tmps.size:=λp hp=>by rw[ht9.1];exact hp
  have hmk9:Marks [D1] W9:=(hmk.keeps hkp8).keeps hkp9
  refine wpIn_block (Ml (m0:=Jr (AD l) l.length aa 9 (AS (AW l) l.length)) (ι:=ι9) hs9 (Ds:= [D1]) hmk9 (by decide) hfun9 (enters_of eY (by kernel_rfl) eZ) (JG (hrel9 W9 hs9) hi9 hS) (λh k=>Zq h k) (λW k o o' _ hk hno' _=>Zr W k o o' hk hno') (λx=>rfl)
   (λ_=>Jr (AD l) l.length aa 9 (AS (AW l) l.length)) rfl (λpre b hb=>Fy (ET l _ _) b hb)
   (λx=>({tmps:=a9.tmps.setIfInBounds 68 (.int .i64 (x.1:Int)),defers:= []}:Act).put (some 12) (.int .i64 (x.1:Int))) ?_ ?_ (λpre W W' h _=>hrel9 W' h) ?_)
  ·intro k x W K' hK';rw[ky];refine Iv (op:=tK) (x:= .tmp 68) rfl rfl ?_;have ez:((#[68]:Array Tmp).zip (Rc l x)).foldl (λt (p,v)=>t.setIfInBounds p v) a9.tmps=a9.tmps.setIfInBounds 68 (.int .i64 (x.1:Int)):=by simp[Rc]
   rw[ez]
   have:({tmps:=a9.tmps.setIfInBounds 68 (.int .i64 (x.1:Int)),defers:= []}:Act).eval (.tmp 68)= .int .i64 (x.1:Int):=by
    show(a9.tmps.setIfInBounds 68 (.int .i64 (x.1:Int))).getD 68 undef=_;rw[DU,if_pos ⟨rfl,hsz9 68 (by decide)⟩]
   rw[this];exact hK'
  ·intro k pre x W Q' hx' hst2 hQ'
   have ht6:BV ι9 116 ((t9.set 68 (.int .i64 (x.1:Int))).set 12 (.int .i64 (x.1:Int))) ((({tmps:=a9.tmps.setIfInBounds 68 (.int .i64 (x.1:Int)),defers:= []}:Act)).put (some 12) (.int .i64 (x.1:Int))):=
    BV.putD (n:=116) (dst:=some 12) (BV.setI (N:=116) ht9 (by decide) (.int _ _)) rfl (.int _ _)
   obtain⟨x6,hx6⟩:=ht6.full (LG++ [(11,B4 9 0),(12, .int .i64 (x.1:Int))]) (by
    intro q hq;have hq:q∈(LG++ [(11,B4 9 0)])++ [(12, .int .i64 (x.1:Int))]:=by simpa using hq
    rcases List.mem_append.1 hq with hq|hq
    ·have hne:q.1≠12/\q.1≠68:=by
      simp only[LG,List.cons_append,List.nil_append,List.mem_cons,List.not_mem_nil,or_false]at hq;rcases hq with rfl|rfl|rfl|rfl|rfl|rfl<;>exact⟨by simp,by simp⟩
     rw[AE.at_set_ne _ hne.1,AE.at_set_ne _ hne.2];exact hkn9 q hq
    ·obtain rfl:=List.mem_singleton.1 hq;exact AE.at_set_same _ _ _)
   exact sV hS x hst2 hx6 hx' hQ'
  ·intro D2 xs2 W' hD2 _ hst2 hmk2;simp only[Exit.inBlock,Exit.then];have ht10:BV ι9 116 t9 {a9 with defers:={target:= .collected D2,args:= #[]}::a9.defers}:=ht9;obtain⟨x10,hx10⟩:=ht10.full LG (λp hp=>hkn9 p (List.mem_append_left _ hp));refine wpIn_seq (DN Br hK FZ (Gh hS B0) Er Gi Es (oB x10 (oC l) (AD l) (AS (AW l) l.length) l.length aa).1 (oB x10 (oC l) (AD l) (AS (AW l) l.length) l.length aa).2 (AB (VU (by decide)) A8) hst2 (Ch (ET l _ _)) hx10 λι11 a11 W11 t11 hs11 ht11 hv11 hd11 _ hkp11=>?_);simp only[Ex.to,Exit.then];obtain⟨x11,hx11⟩:=ht11.full LG (GH hv11);refine wpIn_seq (DN Br hK FZ (Gh hS B0) Er Gi Es (gh x11 (oC l) (AD l) (AS (AW l) l.length) l.length aa 9).1 (gh x11 (oC l) (AD l) (AS (AW l) l.length) l.length aa 9).2 A8 hs11 (Ch (ET l _ _)) hx11 λι12 a12 W12 t12 hs12 ht12 hv12 hd12 _ hkp12=>?_);simp only[Ex.to,Exit.then];refine wpIn_ret ?_;have hmk12:Marks [D2,D1] W12:=(hmk2.keeps hkp11).keeps hkp12
   have hde:a12.defers= [{target:= .collected D2,args:= #[]},{target:= .collected D1,args:= #[]}]:=by
    rw[hd12,hd11];show _::a9.defers=_;rw[hd9,hd8];show _::_::a5.defers=_;rw[hd5,hd4,hd3,hd2,hd1]
   have hm2:=hmk12 D2 (by simp);have hm1:=hmk12 D1 (by simp);have hD1lt:D1<W9.heap.size:=(Array.getElem?_eq_some_iff.1 (hmk9 D1 (by simp))).1;have hne:D1≠D2:=by omega
   obtain⟨W13,hW13⟩:∃W13,W12.putObj D2 (.deferred none)=W13:=⟨_,rfl⟩;have hm1':W13.heap[D1]?=some (.deferred (some [])):=by rw[←hW13];exact(World.putObj_heap_other hne).trans hm1
   obtain⟨W14,hW14⟩:∃W14,W13.putObj D1 (.deferred none)=W14:=⟨_,rfl⟩
   have hs13:Go.DI.St B0 w ι12 (Jr (AD l) l.length aa 9 (AS (AW l) l.length)) W13:=by
    rw[←hW13]
    exact hs12.grown (λb hb=>Fy (ET l _ _) b hb) (B:=w.heap.size) (Nat.le_refl _) (grownBy_putObj' W12 D2 _) (λr e=>by
     cases e;exact⟨Nat.le_trans hs9.below.size hD2,_,hm2,rfl⟩)
   have hs14:Go.DI.St B0 w ι12 (Jr (AD l) l.length aa 9 (AS (AW l) l.length)) W14:=by
    rw[←hW14]
    exact hs13.grown (λb hb=>Fy (ET l _ _) b hb) (B:=w.heap.size) (Nat.le_refl _) (grownBy_putObj' W13 D1 _) (λr e=>by
     cases e;exact⟨Nat.le_trans hs5.below.size hD1,_,hm1',rfl⟩)
   obtain⟨x12,hx12⟩:=ht12.full [(2,B4 3 0),(3,B4 4 0)] (GH hv12);have hres:DM Tryd.prog (AA 116 (up x12 [(2,B4 3 0),(3,B4 4 0)])) (Jr (AD l) l.length aa 9 (AS (AW l) l.length)) Tryd.f35.results.toList=some [.int .i64 0, .int .i64 0]:=by kernel_rfl
   obtain⟨v',q1,q2⟩:=Fo (P:=Tryd.prog) hs14.rel hx12 hres;show LeavesInM Fence.wide 1 Tryd.prog Tryd.f35 a12.tmps _ a12.defers .returning W12;rw[hde];refine⟨by simp, .inl ⟨D2,W13,rfl,by rw[←hW13];exact run_takeDeferred hm2,by simp, .inl ⟨D1,W14,rfl,by rw[←hW14];exact run_takeDeferred hm1',v',q1,?_⟩⟩⟩;have hb14:Below w.heap.size w W14:=hs14.below;refine⟨v',ι,rfl,?_,OK hr hb14,⟨λ_ _ h=>h,λ_ _=>rfl,hb14.os,hb14.output,hb14.tape,hb14.size,λB hB _=>hb14.block B hB,λb L h1 h2=>by omega,Nat.le_refl _,λb _ h=>h⟩⟩
   have hfree:Free (.tuple ⟨[.int .i64 0, .int .i64 0]⟩):=Ej (by
    intro x hx;have hx:x∈ [Value.int .i64 0,Value.int .i64 0]:=hx;simp only[List.mem_cons,List.not_mem_nil,or_false]at hx;rcases hx with rfl|rfl<;>exact Cq _ _)
   exact hfree _ _ _ q2
theorem Ks:EM:=by
 intro B0 b own l M gb hS hF
 have hb:=hF.lt b (by simp)
 have hb0:b≠0:=λe=>hF.nz (by rw[e];simp)
 have hA:∀i:Nat,Nat.blt i 2=true->i=0\/i=1:=λi hi=>by
  have:i<2:=by simpa[Nat.blt_eq]using hi
  omega
 have k0:(mS gl [.cells own (AD l)]).get 0= .cells false gl:=by rw[Cf,if_pos (by decide),mG_get]
 have k1:(mS gl [.cells own (AD l)]).get 1= .cells own (AD l):=by rw[Cf];rfl
 have r0:DQ [b] M 0=0:=rfl
 have r1:DQ [b] M 1=b:=rfl
 have hren:GU (DQ [b] M) (.cells own (AD l))=M.get b:=by
  rw[gb];show BI.cells own _=_;rw[CP (BL l)]
 refine Y8 (ρ:=DQ [b] M) (A:=λi=>Nat.blt i 2) 1 (λg hg=>⟨hg,by
  obtain rfl:g=0:=by omega
  rfl,by
   obtain rfl:g=0:=by omega
   rfl⟩) (Zo (own:=own) hS) ⟨λi hi=>?_,Dx.refl _,Du _,hF.top,λi hi=>?_,λi j hi hj _ _ e=>?_,rfl,λi hi=>?_,λi hi=>?_,λ_ _ _=>rfl⟩ (.cons ?_ .nil) ?_
 ·rw[Jm];rcases hA i hi with rfl|rfl<;>simp
 ·rcases hA i hi with rfl|rfl
  ·rw[r0];omega
  ·rw[r1];exact hb
 ·rcases hA i hi with rfl|rfl<;>rcases hA j hj with rfl|rfl
  ·rfl
  ·rw[r0,r1]at e;omega
  ·rw[r0,r1]at e;omega
  ·rfl
 ·rcases hA i hi with rfl|rfl
  ·rw[k0,r0,hF.gl0];exact El Cs
  ·rw[k1,r1,←hren];exact bsim_ren (nb:=2) (CQ own (BL l) 2).1 (CQ own (BL l) 2).2
 ·rcases hA i hi with rfl|rfl
  ·rw[k0,r0,hF.gl0];exact MJ Cs
  ·rw[k1,r1,←hren];exact Nz (nb:=2) (CQ own (BL l) 2).1 (CQ own (BL l) 2).2
 ·exact JZ (.cons ((EP _ _).sim _ _) (.cons (ER (ρ:=DQ [b] M) (i:=1) rfl) .nil))
 ·exact(Ej (by
   intro x hx;have hx:x∈ [Value.int .i64 0,Value.int .i64 0]:=hx;simp only[List.mem_cons,List.not_mem_nil,or_false]at hx;rcases hx with rfl|rfl<;>exact Cq _ _):Free _).embA _ _
end
end Go.Proofs.YtgjflcgmieiafaaDoor
namespace Go.DI
noncomputable section
section
variable{P:Program}{K:TypeId->Bool}{M M':Mem}{t:AE}{h:H.Hint}{o:DT}{N k:Nat}{c:Code}{ds:List Nat}{vs:List Value}{qs:List Prop}{e:Ex}
noncomputable def dw(h:H.Hint)(P:Program)(K:TypeId->Bool)(k:Nat)(c:Code)(N:Nat)(ds:List Nat)(t:AE)(M:Mem):Option (H.TT (Ex×List Value×Mem)):=
 H.codeT h c P K 1 (H.callT h P K 1 20) (λbody _ k t m q=>Y.loopF body k t m q) N k t M λe t m=>some ((e,ds.map t.at,m),[],[])
theorem dx(h1:∀f v args m,h.call f=some v->h.says f args m v->o f args m=some (v,h.eff f m))(h2:∀f,h.call f=none->∀a m,o f a m=none)
  (hr:(dw h P K k c N ds t M).map (λx=>(x.1,x.2.2))=some ((e,vs,M'),qs)) (hp:((dw h P K k c N ds t M).map λx=>x.2.1.map Prod.fst)=((dw h P K k c N ds t M).map λx=>x.2.1.map Prod.snd)) (hq:∀q∈qs,q):
  ∃t',AH P K 1 (Bw P K 1 o 20) (A6 P K 1 (Bw P K 1 o 20) N) N k c t M=some (e,t',M')/\ds.map t'.at=vs:=by
 obtain⟨e',t',m',a1,a2⟩:=H.codeO_H (H:=h) (o:=o) (P:=P) (K:=K) (G:=1) (j:=20) (n:=N) (k:=k) (c:=c) (t:=t) (m:=M) (g:=λe t m=>(e,ds.map t.at,m)) h1 h2 hr hp hq
 have e1:e'=_:=congrArg (λx=>x.1) a2
 have e2:ds.map t'.at=_:=congrArg (λx=>x.2.1) a2
 have e3:m'=_:=congrArg (λx=>x.2.2) a2
 rw[e1,e3]at a1
 exact⟨t',a1,e2⟩
end
def E5(n:Nat)(t:AE):Prop:=∃x,t=AA n x
def Hb(n:Nat):Prop:=∀(x:Nat->Value) (d:Nat) (v:Value),d<n->∃x',AE.set (AA n x) d v=AA n x'
section
variable{P:Program}{K:TypeId->Bool}{G n k:Nat}{cf:FQ}
theorem IA(hs:Hb n){t:AE}{dst:Option Tmp}{v:Value}(h:E5 n t)(hd:Gb n dst=true):E5 n (putD t dst v):=by
 cases dst with
 |none=>exact h
 |some d=>
  obtain⟨x,rfl⟩:=h;exact hs x d v (by simpa[Gb]using hd)
theorem IB(hs:Hb n){ops:List Oper}:∀(l:List Oper) (t:AE) (m:Mem) (t':AE) (m':Mem),FF P K G cf n ops l t m=some (t',m')->E5 n t->E5 n t'
 | [],t,m,t',m',h,ht=>by simp[FF]at h;rw[←h.1];exact ht
 |o::l,t,m,t',m',h,ht=>by
  simp only[FF]at h;split at h<;>try (simp at h;done)
  rename_i hd;split at h
  ·split at h<;>try (simp at h;done)
   exact IB hs l _ _ _ _ h (IA hs ht hd)
  ·exact IB hs l _ _ _ _ h (IA hs ht hd)
theorem KO(hs:Hb n){ops:List Oper}:∀(l:List Oper) (t:AE) (m:Mem) (rs:List Rec) (t':AE) (m':Mem),Gd P K G cf n ops l t m=some (rs,t',m')->E5 n t->E5 n t'
 | [],t,m,rs,t',m',h,ht=>by simp[Gd]at h;rw[←h.2.1];exact ht
 |o::l,t,m,rs,t',m',h,ht=>by
  simp only[Gd]at h;split at h<;>try (simp at h;done)
  rename_i hd;split at h
  ·split at h<;>try (simp at h;done)
   split at h<;>simp at h;rename_i h1;rw[←h.2.1];exact KO hs l _ _ _ _ _ h1 (IA hs ht hd)
  ·split at h<;>simp at h;rename_i h1;rw[←h.2.1];exact KO hs l _ _ _ _ _ h1 (IA hs ht hd)
theorem S7(hs:Hb n){l:List Oper}{t t':AE}{m m':Mem}(h:A6 P K G cf n l t m=some (t',m'))(ht:E5 n t):E5 n t':=by
 unfold A6 at h
 split at h<;>try (simp at h;done)
 split at h<;>try (simp at h;done)
 rename_i rs t₁ m₁ hrec
 split at h<;>try (simp at h;done)
 split at h<;>simp at h
 rw[←h.1]
 exact KO hs _ _ _ _ _ _ hrec ht
theorem ML{b:AE->Mem->Option (Ex×AE×Mem)}(hb:∀t m e t' m',b t m=some (e,t',m')->E5 n t->E5 n t'):∀(k:Nat) (t:AE) (m:Mem) (e:Ex) (t':AE) (m':Mem),B2 b k t m=some (e,t',m')->E5 n t->E5 n t'
 |0,t,m,e,t',m',h,_=>by simp[B2]at h
 |k+1,t,m,e,t',m',h,ht=>by
  simp only[B2]at h;split at h
  ·rename_i h1;exact ML hb k _ _ _ _ _ h (hb _ _ _ _ _ h1 ht)
  ·exact hb _ _ _ _ _ h ht
theorem S8(hs:Hb n):∀(c:Code) (t:AE) (m:Mem) (e:Ex) (t':AE) (m':Mem),AH P K G cf (A6 P K G cf n) n k c t m=some (e,t',m')->E5 n t->E5 n t':=by
 intro c
 induction c with
 |skip=>intro t m e t' m' h ht;simp[AH]at h;rw[←h.2.1];exact ht
 |label l=>intro t m e t' m' h ht;simp[AH]at h;rw[←h.2.1];exact ht
 |region id ops draw=>
  intro t m e t' m' h ht;simp only[AH]at h;split at h<;>simp at h;rename_i h1;rw[←h.2.1];cases draw
  ·exact IB hs _ _ _ _ _ h1 ht
  ·exact S7 hs h1 ht
 |seq x y ihx ihy=>
  intro t m e t' m' h ht;simp only[AH]at h;split at h
  ·rename_i h1;exact ihy _ _ _ _ _ h (ihx _ _ _ _ _ h1 ht)
  ·exact ihx _ _ _ _ _ h ht
 |cond c x y ihx ihy=>
  intro t m e t' m' h ht;simp only[AH]at h;split at h<;>try (simp at h;done)
  ·exact ihx _ _ _ _ _ h ht
  ·exact ihy _ _ _ _ _ h ht
 |block id c ih=>
  intro t m e t' m' h ht;simp only[AH]at h;split at h
  ·rename_i h1;split at h<;>simp at h<;>rw[←h.2.1] <;>exact ih _ _ _ _ _ h1 ht
  ·exact ih _ _ _ _ _ h ht
 |loop c ih=>intro t m e t' m' h ht;simp only[AH]at h;exact ML (λt m e t' m' h=>ih t m e t' m' h) _ _ _ _ _ _ h ht
 |exit id=>intro t m e t' m' h ht;simp[AH]at h;rw[←h.2.1];exact ht
 |ret=>intro t m e t' m' h ht;simp[AH]at h;rw[←h.2.1];exact ht
 |rangeFunc=>intro t m e t' m' h;simp[AH]at h
 |scope c ih=>intro t m e t' m' h ht;simp only[AH]at h;exact ih _ _ _ _ _ h ht
 |goto=>intro t m e t' m' h;simp[AH]at h
 |refuse=>intro t m e t' m' h;simp[AH]at h
end
end
end Go.DI
namespace Go.DI
open Go.DI.Kit
noncomputable section
section
variable{P:Program}{K:TypeId->Bool}{M M':Mem}{h:H.Hint}{o:DT}{N k:Nat}{c:Code}{ds:List Nat}{vs:List Value}{qs:List Prop}{e:Ex}{x:Nat->Value}
theorem Sn{t:AE}:∀{ds:List Nat} {p:Nat×Value},p∈ds.zip (ds.map t.at)->p.1∈ds/\t.at p.1=p.2
 | [],p,h=>by simp at h
 |d::ds,p,h=>by
  rw[List.map_cons,List.zip_cons_cons]at h;rcases List.mem_cons.1 h with rfl|h
  ·exact⟨List.mem_cons_self ..,rfl⟩
  ·have:=Sn h;exact⟨List.mem_cons_of_mem _ this.1,this.2⟩
theorem C4(hs:Hb N)(hd:ds.all (λd=>Nat.blt d N)=true)(h1:∀f v args m,h.call f=some v->h.says f args m v->o f args m=some (v,h.eff f m))(h2:∀f,h.call f=none->∀a m,o f a m=none)
  (hr:(dw h P K k c N ds (AA N x) M).map (λx=>(x.1,x.2.2))=some ((e,vs,M'),qs)) (hp:((dw h P K k c N ds (AA N x) M).map λx=>x.2.1.map Prod.fst)=((dw h P K k c N ds (AA N x) M).map λx=>x.2.1.map Prod.snd)) (hq:∀q∈qs,q):
  ∃x',AH P K 1 (Bw P K 1 o 20) (A6 P K 1 (Bw P K 1 o 20) N) N k c (AA N x) M=some (e,AA N (up x' (ds.zip vs)),M'):=by
 obtain⟨t',a1,a2⟩:=dx h1 h2 hr hp hq
 obtain⟨y,rfl⟩:=S8 hs _ _ _ _ _ _ a1 ⟨x,rfl⟩
 refine⟨y,?_⟩
 rw[a1,up_self y (ds.zip vs) λp hp=>?_]
 rw[←a2]at hp
 have h3:=Sn hp
 have h4:p.1<N:=Nat.blt_eq▸(List.all_eq_true.1 hd p.1 h3.1)
 rw[FK,if_pos h4]at h3
 exact h3.2
variable{G:Nat}{cf:FQ}{t t':AE}{m m':Mem}
theorem So(i:Nat)(c:Code)(he:e≠ .normal) (h:AH P K G cf (A6 P K G cf N) N k (Gz ((items c).take i)) t m=some (e,t',m')):
  AH P K G cf (A6 P K G cf N) N k c t m=some (e,t',m'):=by
 rw[FI c,←List.take_append_drop i (items c),Em,←DA,h]
 cases e with
 |normal=>exact absurd rfl he
 |exit id=>rfl
 |ret=>rfl
theorem EE{b:AE->Mem->Option (Ex×AE×Mem)}{t1:AE}{m1:Mem}{r:Option (Ex×AE×Mem)}(h1:b t m=some (.normal,t1,m1))(h2:B2 b k t1 m1=r):B2 b (k+1) t m=r:=by
 simp only[B2,h1,h2]
theorem Db{b:AE->Mem->Option (Ex×AE×Mem)}(h1:b t m=some (e,t',m'))(he:e≠ .normal):B2 b (k+1) t m=some (e,t',m'):=by
 simp only[B2,h1]
 cases e with
 |normal=>exact absurd rfl he
 |exit j=>rfl
 |ret=>rfl
theorem Yp{a b:Code}{id:Nat}(h:AH P K G cf (A6 P K G cf N) N k a t m=some (.normal,t',m')):AH P K G cf (A6 P K G cf N) N k (.seq (.block id a) b) t m=AH P K G cf (A6 P K G cf N) N k b t' m':=by
 have hb:AH P K G cf (A6 P K G cf N) N k (.block id a) t m=some (.normal,t',m'):=by simp only[AH,h]
 rw[AH,hb]
end
section
variable{P:Program}{K:TypeId->Bool}{M M':Mem}{h:H.Hint}{o:DT}{N k:Nat}{ops l:List Oper}{ds:List Nat}{vs:List Value}{qs:List Prop}{x:Nat->Value}
noncomputable def nO(h:H.Hint)(P:Program)(K:TypeId->Bool)(ops l:List Oper)(N:Nat)(ds:List Nat)(t:AE)(M:Mem):Option (H.TT (List Value×Mem)):=
 H.opsH h l P K 1 (H.callT h P K 1 20) N ops t M λt m=>some ((ds.map t.at,m),[],[])
theorem Mm(hs:Hb N)(hd:ds.all (λd=>Nat.blt d N)=true)(h1:∀f v args m,h.call f=some v->h.says f args m v->o f args m=some (v,h.eff f m))(h2:∀f,h.call f=none->∀a m,o f a m=none)
  (hr:(nO h P K ops l N ds (AA N x) M).map (λx=>(x.1,x.2.2))=some ((vs,M'),qs)) (hp:((nO h P K ops l N ds (AA N x) M).map λx=>x.2.1.map Prod.fst)=((nO h P K ops l N ds (AA N x) M).map λx=>x.2.1.map Prod.snd)) (hq:∀q∈qs,q):
  ∃x',FF P K 1 (Bw P K 1 o 20) N ops l (AA N x) M=some (AA N (up x' (ds.zip vs)),M'):=by
 cases hx:nO h P K ops l N ds (AA N x) M with
 |none=>rw[hx]at hr;cases hr
 |some r=>
  obtain⟨b',ps,qs'⟩:=r;rw[hx]at hr hp;have hr:some (b',qs')=some ((vs,M'),qs):=hr;simp only[Option.some.injEq,Prod.mk.injEq]at hr;obtain⟨rfl,rfl⟩:=hr;have hp:some (ps.map Prod.fst)=some (ps.map Prod.snd):=hp;obtain⟨⟨t',m'⟩,q1,ps',q2,_⟩:=H.ops_fac h (H.call_fac h P K 1 o h1 h2 20) N ops l (AA N x) M (λp=>some ((ds.map p.1.at,p.2),[],[])) (vs,M') (ps,qs') hx (H.good_of (Option.some.inj hp) hq);simp only[Option.some.injEq,Prod.mk.injEq]at q2;obtain⟨⟨q3,q4⟩,_⟩:=q2;subst q4;obtain⟨y,rfl⟩:=IB hs _ _ _ _ _ q1 ⟨x,rfl⟩;refine⟨y,?_⟩;rw[q1,up_self y (ds.zip vs) λp hp=>?_];rw[←q3]at hp;have h3:=Sn hp;have h4:p.1<N:=Nat.blt_eq▸(List.all_eq_true.1 hd p.1 h3.1);rw[FK,if_pos h4]at h3;exact h3.2
variable{G:Nat}{cf:FQ}{t t' t2:AE}{m m' m2:Mem}
variable{c:Code}{e:Ex}{M0 M1 M2:Mem}{t1:AE}
end
end
end Go.DI
namespace Go.Proofs.YtgjflcgmieiafaaDoor
open Go Go.DI Go.DI.Kit Go.Proofs Go.Cmp
noncomputable section
noncomputable def oK:DT:=λf a M=>
 if f=7\/f=4\/f=5 then AL Tryd.prog kp 1 oQ 200000 f a M
 else if f=6 then ZO f a M
 else none
theorem Sv:Bc oK:=λf a M v M' h=>by
 unfold oK at h
 split at h
 ·exact KT SF 200000 _ _ _ _ _ h
 split at h
 ·exact Uz Ks _ _ _ _ _ h
 ·cases h
theorem nR(B0:Nat):CT Tryd.prog B0 1 oK:=by
 have h1:=Qp (B0:=B0) Br hK FZ mj SF 200000
 have h2:=kG Ks B0
 refine⟨λf a M v M' h=>(Sv f a M v M' h).size,λf a M v M' h=>?_,λf a M v M' h=>?_⟩
 all_goals
  unfold oK at h;split at h
  ·first|exact h1.ok _ _ _ _ _ h|exact h1.body _ _ _ _ _ h
  split at h
  ·first|exact h2.ok _ _ _ _ _ h|exact h2.body _ _ _ _ _ h
  ·cases h
theorem Sw{f:FuncId}(h7:f≠7)(h4:f≠4)(h5:f≠5)(h6:f≠6)(a:List Value)(M:Mem):oK f a M=none:=by
 unfold oK
 rw[if_neg (by rintro(e|e|e)<;>contradiction),if_neg h6]
theorem kH{f:FuncId}(h:f=7\/f=4\/f=5)(a:List Value)(M:Mem):oK f a M=AL Tryd.prog kp 1 oQ 200000 f a M:=if_pos h
theorem nS(a:List Value)(M:Mem):oK 6 a M=ZO 6 a M:=(if_neg (by decide)).trans (if_pos rfl)
theorem CB{M:Mem}{j:Nat}(h:j<M.size):Cg M j=some (M.get j):=if_pos h
theorem ZP{M M':Mem}(h:Hp M' (Cg M) []):Ext M M':=by
 obtain⟨ht,hK,_⟩:=h
 refine⟨?_,λj hj=>(hK j _ (CB hj)).2,λ_=>ht⟩
 rcases Nat.eq_zero_or_pos M.size with h0|h0
 ·omega
 ·have:=(hK (M.size - 1) _ (CB (by omega))).1;omega
structure Pp(M:Mem):Prop where
 top:M.top
 pos:1<=M.size
 gl0:M.get 0= .cells false gl
theorem Pp.ext{M M':Mem}(h:Pp M)(x:Ext M M'):Pp M':=⟨x.top h.top,Nat.le_trans h.pos x.size,(x.get 0 h.pos).trans h.gl0⟩
structure mP(rs:List A5):Prop where
 rng:JK rs
 ver:∀r∈rs,0<=r.verdict/\r.verdict<4294967296
section
variable{M:Mem}{rs:List A5}{v:Value}
theorem ZQ(h:Pp M):∃M',oK 7 [] M=some (.bool true,M')/\Ext M M':=by
 obtain⟨M',h1,h2⟩:=jD 200000 M (by decide) h.top h.pos h.gl0
 exact⟨M',(kH (by decide) _ _).trans h1,h2⟩
theorem Jc(h:Pp M)(hT:mP rs)(hv:DH (Cg M) v rs):∃cv M',oK 4 [v] M=some (.tuple ⟨[.agg ⟨[.slice none 0 0,cv]⟩, .int .i64 (Gj rs)]⟩,M')/\Ext M M'/\GP M' (Cg M) (C6 rs) cv:=by
 obtain⟨cv,M',h1,h2,h3,_⟩:=bd (k:=200000) mn (by decide) hT.rng hv (Hp.all h.top) (by rw[CB h.pos,h.gl0])
 exact⟨cv,M',(kH (by decide) _ _).trans h1,ZP h2,h3⟩
theorem P6(h:Pp M)(hT:mP rs)(hv:DH (Cg M) v rs):∃M',oK 5 [v] M=some (.tuple ⟨[.int .i64 (JL rs:Int), .int .i64 (C5 rs).2]⟩,M')/\Ext M M':=by
 obtain⟨M',h1,h2⟩:=bc (k:=200000) mn (by decide) hT.rng hv (Hp.all h.top) (by rw[CB h.pos,h.gl0])
 exact⟨M',(kH (by decide) _ _).trans h1,ZP h2⟩
end
theorem Jd(rs:List A9):(B6 rs).length=BU rs:=by
 unfold B6
 exact Bo _ _ _
theorem RL{rs:List A5}(h:Gj rs=0):(C5 rs).2=0/\(B6 (BF rs)).length<=512/\C6 rs=B6 (BF rs):=by
 have h0:=h
 unfold Gj at h
 split at h
 ·rename_i hc;split at h
  ·cases h
  ·exact⟨hc,by omega,if_pos h0⟩
 ·rename_i hc;exact absurd h hc
theorem ZR{rs:List A5}{pk:List Int}{port:Int}(h:Gj rs=0)(hT:mP rs)(hb:∀b∈pk,0<=b/\b<256)(hn:pk.length<=65535)(hp:0<=port/\port<4294967296):Kt (C6 rs) pk port (Gq pk port rs):=by
 obtain⟨hc,hl,ho⟩:=RL h
 obtain⟨_,h2⟩:=Nf hc
 have h3:=Gk rs 0 h2
 have hW:∀r∈rs,JP r:=λr hr=>⟨λt ht=>testW (List.all_eq_true.1 (h3 r hr).2 t ht) (hT.rng r hr t ht).lo.1,(hT.ver r hr).1,(hT.ver r hr).2⟩
 have hbd:BU (BF rs)<=20000:=by rw[←Jd];omega
 obtain⟨pc,n,r',h1,h2,h3,h4⟩:=Pz (port:=port) hW hbd hb hp.1
 rw[ho]
 refine⟨⟨?_,hl,QP hW hbd,SM hW⟩,hb,hn,hp,pc,n,r',h1,h2,h3,h4⟩
 rintro e
 rw[e]at h2
 simp at h2
def ZS:A7:=⟨false,4,0,1,255,0,5⟩
def Je:List A5:= [⟨List.replicate 8 ZS,0⟩]
def ZT:List A5:= [⟨[⟨false,3,23,1,255,6,6⟩],0⟩]
def FM:List A5:= [⟨[],9⟩]
def kI:List A5:= [⟨[⟨false,9,0,0,0,0,0⟩],0⟩]
def Jf(k:Nat):A7:=⟨false,1,0,0,0,if k<5 then 1 else 0,9⟩
def Sx(rs:List A5)(t:A7):List A5:=match rs with
 | []=> []
 | [r]=> [⟨r.tests++ [t],r.verdict⟩]
 |r::rs=>r::Sx rs t
def Jg(rs:List A5)(k:Nat):List A5:=Sx (if k % 6=0 then rs++ [⟨[],1⟩]else rs) (Jf k)
def OP(n:Nat):List A5:=(List.range n).foldl Jg []
def Cv:List A5:=OP 46
theorem gK{rs:List A5}(hc:(C5 rs).2=0):JL rs=BU (BF rs):=by
 unfold JL;rw[if_pos hc,Jd]
theorem RM{rs:List A5}(hc:(C5 rs).2=0):Gj rs=if 512<BU (BF rs)then 3 else 0:=by
 unfold Gj;rw[if_pos hc,Jd]
end
end Go.Proofs.YtgjflcgmieiafaaDoor
namespace Go.Proofs.YtgjflcgmieiafaaDoor
open Go Go.DI Go.DI.Kit Go.Proofs Go.Cmp
theorem ZU:(C5 Je).2=0:=by decide
theorem ZV:512<BU (BF Je):=by decide+kernel
theorem ZW:Gj Je=3:=by rw[RM ZU,if_pos ZV]
theorem RN:(C5 ZT).2=0:=by decide
theorem ZX:JL ZT=25:=by rw[gK RN];decide+kernel
theorem ZY:(C5 FM).2=0:=by decide
theorem RO:Gj FM=0:=by rw[RM ZY,if_neg (by decide+kernel)]
theorem RP:Gj []=0:=by rw[RM (by decide),if_neg (by decide+kernel)]
theorem eN:(C5 kI).2=1:=by decide
theorem ZZ:(C5 Cv).2=0:=by decide+kernel
theorem RQ:BU (BF Cv)=512:=by decide+kernel
theorem RR:Gj Cv=0:=by rw[RM ZZ,if_neg (by rw[RQ];decide)]
theorem Z0:(C6 Cv).length=512:=by rw[(RL RR).2.2,Jd,RQ]
theorem Mx:(C5 (Cv++ [⟨[],0⟩])).2=0:=by decide+kernel
theorem RS:BU (BF (Cv++ [⟨[],0⟩]))=518:=by decide+kernel
theorem Ws:JL (Cv++ [⟨[],0⟩])=518:=by rw[gK Mx,RS]
theorem Z1:Gj (Cv++ [⟨[],0⟩])=3:=by rw[RM Mx,if_pos (by rw[RS];decide)]
end Go.Proofs.YtgjflcgmieiafaaDoor
namespace Go.Proofs.YtgjflcgmieiafaaDoor
open Go Go.DI Go.DI.Kit Go.Proofs Go.Cmp
noncomputable section
noncomputable def cK:Code:=AN Tryd.f3
structure KH where
 tv:List Value:= []
 rv:List Value:= []
 cv:Value:=undef
 e:Int:=0
 n:Int:=0
 jn:Int:=0
 M4:Mem:=⟨λ_=> .none, .nil,0⟩
 M5:Mem:=⟨λ_=> .none, .nil,0⟩
noncomputable def F9(cv:Value):List Value:= [.slice none 0 0,cv]
noncomputable def na(d:KH):H.Hint where
 ix _:=false
 ld _ t _:=cond (Nat.beq t 24) (some (.agg ⟨d.tv⟩)) (cond (Nat.beq t 28) (some (.agg ⟨d.rv⟩)) (cond (Nat.beq t 32) (some (.agg ⟨F9 d.cv⟩)) none))
 cmp _ _:=none
 ap _:=none
 call f:=cond (Nat.beq f 4) (some (.tuple ⟨[.agg ⟨F9 d.cv⟩, .int .i64 d.e]⟩)) (cond (Nat.beq f 5) (some (.tuple ⟨[.int .i64 d.n, .int .i64 d.e]⟩)) (cond (Nat.beq f 6) (some (.tuple ⟨[.int .u64 d.jn, .bool true]⟩)) (cond (Nat.beq f 7) (some (.bool true)) none)))
 spec _ _ _ _:=False
 blk:=0
 eff f m:=cond (Nat.beq f 4) d.M4 (cond (Nat.beq f 5) d.M5 (cond (Nat.beq f 7) d.M5 m))
 specM f:=some λargs m v=>oK f args m=some (v,cond (Nat.beq f 4) d.M4 (cond (Nat.beq f 5) d.M5 (cond (Nat.beq f 7) d.M5 m)))
 st t _:=cond (Nat.beq t 24) (some (.cells true d.tv)) (cond (Nat.beq t 28) (some (.cells true d.rv)) (cond (Nat.beq t 32) (some (.cells true (F9 d.cv))) none))
noncomputable def tV(kind pos size mask lo hi:Int):List Value:= [.bool false, .int .i64 kind, .int .i64 pos, .int .i64 size, .int .u64 mask, .int .u64 lo, .int .u64 hi]
noncomputable def DS(b n:Nat):Value:= .slice (some ⟨b,0,none⟩) n n
noncomputable def pQ(i j:Nat):Code:=Gz (((items cK).drop i).take j)
noncomputable def zR:List Value:= [.slice none 0 0, .int .u32 0]
noncomputable def zI:List Value:= [.slice none 0 0, .slice none 0 0]
noncomputable def Z7(M:Mem)(cv:Value):Mem:=(M.push (.cells true zI)).set M.size (.cells true (F9 cv))
noncomputable def VA(ty:TypeId)(M:Mem)(c w:List Value):Prop:=H.stOk Tryd.prog ((M.push (.cells true c)).get M.size) ty 0 (.agg ⟨w⟩) (.cells true w)
noncomputable def TC(M:Mem)(b n:Nat)(w:List Value):Prop:=H.ldOk (M.get b) 0 true n (.agg ⟨w⟩)
noncomputable def pV:List Value:=tV 4 0 1 255 0 5
noncomputable def p8:List Value:=(List.replicate 8 ZS).flatMap AR
noncomputable def kA(M:Mem):Mem:=(M.push (.cells true (tV 0 0 0 0 0 0))).set M.size (.cells true pV)
noncomputable def kB(M:Mem):Mem:=(kA M).push (.cells true p8)
noncomputable def rL(M:Mem):List Value:= [DS (M.size+1) 8, .int .u32 0]
noncomputable def kC(M:Mem):Mem:=((kB M).push (.cells true zR)).set (M.size+2) (.cells true (rL M))
noncomputable def kD(M:Mem):Mem:=(kC M).push (.cells true (rL M))
abbrev Pq{A:Type}(r:Option (H.TT A))(y:A×List Prop):Prop:=r.map (λx=>(x.1,x.2.2))=some y/\(r.map λx=>x.2.1.map Prod.fst)=(r.map λx=>x.2.1.map Prod.snd)
noncomputable def pK(d:KH)(k i j:Nat)(ds:List Nat)(x:Nat->Value)(M:Mem):=dw (na d) Tryd.prog kp k (pQ i j) 193 ds (AA 193 x) M
theorem rk(k:Nat)(x:Nat->Value)(M M4:Mem)(a:Option Addr)(n c:Nat)(e:Int):
  Pq (pK {tv:=pV,rv:=rL M,cv:= .slice a n c,e:=e,M4:=M4} k 0 4 [0,4] x M)
   ((.normal,[.bool false, .int .i64 e],Z7 M4 (.slice a n c)),[VA 24 M (tV 0 0 0 0 0 0) pV,TC (kA M) M.size 7 pV,TC (kA M) M.size 7 pV,TC (kA M) M.size 7 pV,TC (kA M) M.size 7 pV,TC (kA M) M.size 7 pV,TC (kA M) M.size 7 pV,TC (kA M) M.size 7 pV,TC (kA M) M.size 7 pV,VA 28 (kB M) zR (rL M),TC (kC M) (M.size+2) 2 (rL M),
    oK 4 [DS (M.size+3) 1] (kD M)=some (.tuple ⟨[.agg ⟨F9 (.slice a n c)⟩, .int .i64 e]⟩,M4),VA 32 M4 zI (F9 (.slice a n c))]):=⟨by kernel_rfl,by kernel_rfl⟩
noncomputable def RT(M:Mem)(tv:List Value):Mem:=(M.push (.cells true tv)).push (.cells true [DS M.size 1, .int .u32 0])
noncomputable def B0(b:Bool):Value:= .bool b
noncomputable def I(n:Int):Value:= .int .i64 n
noncomputable def U(n:Int):Value:= .int .u64 n
noncomputable def eR(cv:Value)(e:Int):Value:= .tuple ⟨[.agg ⟨F9 cv⟩, .int .i64 e]⟩
noncomputable def bx(b:Nat):Value:= .pointer (some ⟨b,0,none⟩)
theorem rm(k:Nat)(x:Nat->Value)(M:Mem)(M5:Mem)(e4 n5 e6:Int):
  Pq (pK {n:=n5,e:=e6,M5:=M5} k 4 1 [0,4,5,6] (up x ([0,4].zip [.bool false,I e4])) M)
   ((.normal,[.bool false,I e4,I n5,I e6],M5),[oK 5 [DS (M.size+1) 1] (RT M (tV 3 23 1 255 6 6))=some (.tuple ⟨[I n5,I e6]⟩,M5)]):=⟨by kernel_rfl,by kernel_rfl⟩
theorem rq(k:Nat)(x:Nat->Value)(M:Mem)(M4:Mem)(a:Option Addr)(n c:Nat)(e4 n5 e6 e8:Int):
  Pq (pK {cv:= .slice a n c,e:=e8,M4:=M4} k 5 1 [0,4,5,6,7,8] (up x ([0,4,5,6].zip [.bool false,I e4,I n5,I e6])) M)
   ((.normal,[.bool false,I e4,I n5,I e6,bx M4.size,I e8],Z7 M4 (.slice a n c)),[oK 4 [DS M.size 1] (M.push (.cells true [.slice none 0 0, .int .u32 9]))=some (eR (.slice a n c) e8,M4),VA 32 M4 zI (F9 (.slice a n c))]):=⟨by kernel_rfl,by kernel_rfl⟩
theorem rr(k:Nat)(x:Nat->Value)(M:Mem)(a:Option Addr)(n c:Nat)(b7:Nat)(e4 n5 e6 e8 j9:Int):
  Pq (pK {cv:= .slice a n c,jn:=j9} k 6 1 [0,4,5,6,8,9,10] (up x ([0,4,5,6,7,8].zip [.bool false,I e4,I n5,I e6,bx b7,I e8])) M)
   ((.normal,[.bool false,I e4,I n5,I e6,I e8,U j9, .bool true],M.push (.cells true [.int .u8 1])),[TC M b7 2 (F9 (.slice a n c)),oK 6 [.agg ⟨F9 (.slice a n c)⟩,DS M.size 1, .int .u32 0] (M.push (.cells true [.int .u8 1]))=some (.tuple ⟨[U j9, .bool true]⟩,M.push (.cells true [.int .u8 1]))]):=⟨by kernel_rfl,by kernel_rfl⟩
theorem ru(k:Nat)(x:Nat->Value)(M:Mem)(M4:Mem)(a:Option Addr)(n c:Nat)(e4 n5 e6 e8 j9 e12:Int):
  Pq (pK {cv:= .slice a n c,e:=e12,M4:=M4} k 7 1 [0,4,5,6,8,9,10,11,12] (up x ([0,4,5,6,8,9,10].zip [.bool false,I e4,I n5,I e6,I e8,U j9, .bool true])) M)
   ((.normal,[.bool false,I e4,I n5,I e6,I e8,U j9, .bool true,bx M4.size,I e12],Z7 M4 (.slice a n c)),[oK 4 [.slice none 0 0] M=some (eR (.slice a n c) e12,M4),VA 32 M4 zI (F9 (.slice a n c))]):=⟨by kernel_rfl,by kernel_rfl⟩
theorem ry(k:Nat)(x:Nat->Value)(M:Mem)(a:Option Addr)(n c:Nat)(b11:Nat)(e4 n5 e6 e8 j9 e12 j13:Int):
  Pq (pK {cv:= .slice a n c,jn:=j13} k 8 1 [0,4,5,6,8,9,10,12,13,14] (up x ([0,4,5,6,8,9,10,11,12].zip [.bool false,I e4,I n5,I e6,I e8,U j9, .bool true,bx b11,I e12])) M)
   ((.normal,[.bool false,I e4,I n5,I e6,I e8,U j9, .bool true,I e12,U j13, .bool true],M),[TC M b11 2 (F9 (.slice a n c)),oK 6 [.agg ⟨F9 (.slice a n c)⟩, .slice none 0 0, .int .u32 7] M=some (.tuple ⟨[U j13, .bool true]⟩,M)]):=⟨by kernel_rfl,by kernel_rfl⟩
theorem rz(k:Nat)(x:Nat->Value)(M:Mem)(M5:Mem)(e4 n5 e6 e8 j9 e12 j13 n15 e16:Int):
  Pq (pK {n:=n15,e:=e16,M5:=M5} k 9 3 [0,4,5,6,8,9,10,12,13,14,16,17,80] (up x ([0,4,5,6,8,9,10,12,13,14].zip [.bool false,I e4,I n5,I e6,I e8,U j9, .bool true,I e12,U j13, .bool true])) M)
   ((.normal,[.bool false,I e4,I n5,I e6,I e8,U j9, .bool true,I e12,U j13, .bool true,I e16, .slice none 0 0,I 0],M5),[oK 5 [DS (M.size+1) 1] (RT M (tV 9 0 0 0 0 0))=some (.tuple ⟨[I n15,I e16]⟩,M5)]):=⟨by kernel_rfl,by kernel_rfl⟩
theorem DV:Hb 193:=by
 intro x d v hd
 refine⟨up x [(d,v)],?_⟩
 iterate 193 (rcases d with _|d;· kernel_rfl)
 omega
theorem Hj{d:KH}(f:FuncId)(v:Value)(args:List Value)(m:Mem)(hc:(na d).call f=some v)(hs:(na d).says f args m v):oK f args m=some (v,(na d).eff f m):=hs
theorem GI{d:KH}(f:FuncId)(hc:(na d).call f=none)(a:List Value)(m:Mem):oK f a m=none:=
 Sw (by rintro rfl;cases hc) (by rintro rfl;cases hc) (by rintro rfl;cases hc) (by rintro rfl;cases hc) a m
noncomputable abbrev NR:FQ:=Bw Tryd.prog kp 1 oK 20
noncomputable abbrev runK(i j:Nat)(t:AE)(m:Mem):Option (Ex×AE×Mem):=AH Tryd.prog kp 1 NR (A6 Tryd.prog kp 1 NR 193) 193 600 (pQ i j) t m
theorem GJ{i j l:Nat}{t t1:AE}{m m1:Mem}{r:Option (Ex×AE×Mem)}(h1:runK i j t m=some (.normal,t1,m1))(h2:runK (i+j) l t1 m1=r):runK i (j+l) t m=r:=by
 unfold runK pQ at*
 rw[DA]at h1 h2 ⊢
 rw[List.take_add,Em,h1,List.drop_drop]
 exact h2
theorem kQ:Bh Tryd.prog 24=some 7:=by kernel_rfl
theorem mR:Bh Tryd.prog 28=some 2:=by kernel_rfl
theorem szI:Bh Tryd.prog 32=some 2:=by kernel_rfl
theorem TD{c w:List Value}(h:c.length=w.length):splice c 0 w=w:=by
 unfold splice
 rw[List.take_zero,List.nil_append,List.drop_eq_nil_of_le (by omega),List.append_nil]
theorem JB{ty n:Nat}{M:Mem}{c w:List Value}(hs:Bh Tryd.prog ty=some n)(hc:c.length=n)(hw:w.length=n)(h1:w.all one=true):VA ty M c w:=by
 unfold VA H.stOk
 intro m b hg
 have hg':m.get b= .cells true c:=hg.trans (Mem.get_push_same ..)
 have:=Cn (P:=Tryd.prog) (m:=m) (t:=ty) (v:= .agg ⟨w⟩) (b:=b) (off:=0) (n:=n) (c:=c) hs hw hg' (by omega) h1
 have e:splice c 0 (Value.agg ⟨w⟩).cells.toList=w:=TD (hc.trans hw.symm)
 rw[e]at this
 exact this
theorem Mz{M:Mem}{b n:Nat}{w:List Value}{own:Bool}(hg:M.get b= .cells own w)(hw:w.length=n):TC M b n w:=by
 unfold TC
 rw[hg]
 refine⟨w,?_,rfl⟩
 show(if 0+n<=w.length then some ((w.drop 0).take n)else none)=_
 rw[if_pos (by omega),List.drop_zero,List.take_of_length_le (by omega)]
def sA(rs:List A5):Bool:=rs.all λr=>decide (0<=r.verdict/\r.verdict<4294967296) && r.tests.all λt=>decide (0<=t.mask/\t.mask<18446744073709551616/\0<=t.lo/\t.lo<18446744073709551616/\0<=t.hi/\t.hi<18446744073709551616)
theorem HG{rs:List A5}(h:sA rs=true):mP rs:=by
 have h1:=λr hr=>List.all_eq_true.1 h r hr
 simp only[Bool.and_eq_true]at h1
 refine⟨λr hr t ht=>?_,λr hr=>of_decide_eq_true (h1 r hr).1⟩
 have:=of_decide_eq_true (List.all_eq_true.1 (h1 r hr).2 t ht)
 exact⟨⟨this.1,this.2.1⟩,⟨this.2.2.1,this.2.2.2.1⟩,this.2.2.2.2⟩
theorem Z8(M:Mem):DH (Cg (kD M)) (DS (M.size+3) 1) Je:=by
 have s3:(kD M).size=M.size+4:=rfl
 have g3:(kD M).get (M.size+3)= .cells true (rL M):=Mem.get_push_same (kC M) _
 have g1:(kD M).get (M.size+1)= .cells true p8:=by
  unfold kD kC;rw[Mem.get_push_ne _ (by show M.size+1≠M.size+3;omega),Mem.get_set_ne _ (by omega),Mem.get_push_ne _ (by show M.size+1≠M.size+2;omega)];exact Mem.get_push_same (kA M) _
 refine⟨_,1,rfl,λ_=>⟨M.size+3,none,true,[],[(DS (M.size+1) 8,⟨List.replicate 8 ZS,0⟩)],rfl,rfl,?_,λx hx=>?_⟩⟩
 ·rw[CB (by omega),g3];rfl
 ·obtain rfl:=List.mem_singleton.1 hx;refine⟨_,8,rfl,λ_=>⟨M.size+1,none,true,[],rfl,?_⟩⟩;rw[CB (by omega),g1];rfl
theorem NA(M:Mem)(t:A7):DH (Cg (RT M (AR t))) (DS (M.size+1) 1) [⟨[t],0⟩]:=by
 have s3:(RT M (AR t)).size=M.size+2:=rfl
 have g1:(RT M (AR t)).get (M.size+1)= .cells true [DS M.size 1, .int .u32 0]:=Mem.get_push_same (M.push _) _
 have g0:(RT M (AR t)).get M.size= .cells true (AR t):=by
  unfold RT;rw[Mem.get_push_ne _ (by show M.size≠M.size+1;omega)];exact Mem.get_push_same ..
 refine⟨_,1,rfl,λ_=>⟨M.size+1,none,true,[],[(DS M.size 1,⟨[t],0⟩)],rfl,rfl,?_,λx hx=>?_⟩⟩
 ·rw[CB (by omega),g1];rfl
 ·obtain rfl:=List.mem_singleton.1 hx;refine⟨_,1,rfl,λ_=>⟨M.size,none,true,[],rfl,?_⟩⟩;rw[CB (by omega),g0];simp
theorem TE(M:Mem):DH (Cg (M.push (.cells true [.slice none 0 0, .int .u32 9]))) (DS M.size 1) FM:=by
 refine⟨_,1,rfl,λ_=>⟨M.size,none,true,[],[(.slice none 0 0,⟨[],9⟩)],rfl,rfl,?_,λx hx=>?_⟩⟩
 ·rw[CB (by show M.size<M.size+1;omega),Mem.get_push_same];rfl
 ·obtain rfl:=List.mem_singleton.1 hx;exact⟨none,0,rfl,λh=>absurd rfl h⟩
theorem Wu(M:Mem):DH (Cg M) (.slice none 0 0) []:=⟨none,0,rfl,λh=>absurd rfl h⟩
theorem Z9(M:Mem):Ext M (kD M):=((((Ext.fresh (m:=M)).trans (Ext.push _ _)).trans (Ext.fresh (m:=kB M))).trans (Ext.push _ _))
theorem Ji(M:Mem)(tv:List Value):Ext M (RT M tv):=(Ext.push _ _).trans (Ext.push _ _)
theorem Jj(M:Mem)(cv:Value):Ext M (Z7 M cv):=Ext.fresh
theorem P9(M:Mem)(cv:Value):(Z7 M cv).get M.size= .cells true (F9 cv):=Mem.get_set_same ..
theorem nc{M:Mem}{a:Option Addr}{n c:Nat}:VA 32 M zI (F9 (.slice a n c)):=JB szI rfl rfl rfl
noncomputable def pR:List (Nat×Value):= [0,4,5,6,8,9,10,12,13,14,16,17,80].zip [.bool false,I 3,I 25,I 0,I 0,U 9, .bool true,I 0,U 0, .bool true,I 1, .slice none 0 0,I 0]
theorem Za{m:Mem}(hm:Pp m)(x:Nat->Value):∃x' M',Ext m M'/\runK 0 12 (AA 193 x) m=some (.normal,AA 193 (up x' pR),M'):=by
 obtain⟨cv,M1,e1,y1,hc1⟩:=Jc (hm.ext (Z9 m)) (rs:=Je) (HG (by decide+kernel)) (Z8 m)
 obtain⟨a1,rfl,_⟩:=hc1
 rw[ZW]at e1
 have z1:=(Z9 m).trans y1
 have ldp:TC (kA m) m.size 7 pV:=Mz (Mem.get_set_same ..) rfl
 obtain⟨q1,q2⟩:=rk 600 x m M1 a1 (C6 Je).length (C6 Je).length 3
 obtain⟨x1,h1⟩:=C4 (x:=x) DV rfl Hj GI q1 q2 (AB (JB kQ rfl rfl rfl) (AB ldp (AB ldp (AB ldp (AB ldp (AB ldp (AB ldp (AB ldp (AB ldp (AB (JB mR rfl rfl rfl) (AB (Mz (Mem.get_set_same ..) rfl) (AB e1 (AB nc (λq hq=>by cases hq))))))))))))))
 obtain⟨N1,hN1⟩:∃N1,Z7 M1 (.slice a1 (C6 Je).length (C6 Je).length)=N1:=⟨_,rfl⟩
 have w1:Ext m N1:=hN1▸z1.trans (Jj _ _)
 rw[hN1]at h1
 obtain⟨M2,e2,y2⟩:=P6 ((hm.ext w1).ext (Ji N1 (tV 3 23 1 255 6 6))) (rs:=ZT) (HG (by decide+kernel)) (NA N1 ⟨false,3,23,1,255,6,6⟩)
 rw[ZX,RN]at e2
 have w2:=w1.trans ((Ji N1 _).trans y2)
 obtain⟨q1,q2⟩:=rm 600 x1 N1 M2 3 25 0
 obtain⟨x2,h2⟩:=C4 DV rfl Hj GI q1 q2 (AB e2 (λq hq=>by cases hq))
 obtain⟨cv3,M3,e3,y3,hc3⟩:=Jc ((hm.ext w2).ext (Ext.push M2 (.cells true [.slice none 0 0, .int .u32 9]))) (rs:=FM) (HG (by decide+kernel)) (TE M2)
 obtain⟨a3,rfl,hcode3⟩:=hc3
 rw[RO]at e3
 have R3:=ZR (pk:= [1]) (port:=0) RO (HG (rs:=FM) (by decide+kernel)) (λb hb=>by obtain rfl:=List.mem_singleton.1 hb;omega) (by decide) (by omega)
 obtain⟨c3,rfl,c31,c32,c33⟩:=hcode3 R3.shape.pos
 have w3:=w2.trans ((Ext.push M2 (.cells true [.slice none 0 0, .int .u32 9])).trans y3)
 obtain⟨q1,q2⟩:=rq 600 x2 M2 M3 (some ⟨c3,0,some 5⟩) (C6 FM).length (C6 FM).length 3 25 0 0
 obtain⟨x3,h3⟩:=C4 DV rfl Hj GI q1 q2 (AB e3 (AB nc (λq hq=>by cases hq)))
 have xI3:=Jj M3 (.slice (some ⟨c3,0,some 5⟩) (C6 FM).length (C6 FM).length)
 have gI3:=P9 M3 (.slice (some ⟨c3,0,some 5⟩) (C6 FM).length (C6 FM).length)
 obtain⟨N3,hN3⟩:∃N3,Z7 M3 (.slice (some ⟨c3,0,some 5⟩) (C6 FM).length (C6 FM).length)=N3:=⟨_,rfl⟩
 rw[hN3]at xI3 gI3 h3
 have v3:=w3.trans xI3
 have xp:=Ext.push N3 (.cells true [.int .u8 1])
 have t4:=(hm.ext v3).ext xp
 have c30:c3≠0:=by
  have h2:=(hm.ext w2).pos;rintro rfl;rw[CB (by show 0<M2.size+1;omega)]at c32;cases c32
 have e4:oK 6 [.agg ⟨F9 (.slice (some ⟨c3,0,some 5⟩) (C6 FM).length (C6 FM).length)⟩,DS N3.size 1, .int .u32 0] (N3.push (.cells true [.int .u8 1]))=some (.tuple ⟨[U 9, .bool true]⟩,N3.push (.cells true [.int .u8 1])):=by
  rw[nS];have hlt:=Nat.lt_of_lt_of_le c31 xI3.size;exact OQ R3 t4.top t4.gl0 t4.pos (Nat.lt_of_lt_of_le hlt xp.size) c30 (((xI3.trans xp).get c3 c31).trans c33) (.inr ⟨N3.size,none,1,true,rfl,by show N3.size<N3.size+1;omega,by have:=(hm.ext v3).pos;omega,by omega,Mem.get_push_same ..⟩)
 obtain⟨q1,q2⟩:=rr 600 x3 N3 (some ⟨c3,0,some 5⟩) (C6 FM).length (C6 FM).length M3.size 3 25 0 0 9
 obtain⟨x4,h4⟩:=C4 DV rfl Hj GI q1 q2 (AB (Mz gI3 rfl) (AB e4 (λq hq=>by cases hq)))
 obtain⟨cv5,M5,e5,y5,hc5⟩:=Jc t4 (rs:= []) (HG (by decide)) (Wu _)
 obtain⟨a5,rfl,hcode5⟩:=hc5
 rw[RP]at e5
 have R5:=ZR (pk:= []) (port:=7) RP (HG (rs:= []) (by decide)) (λb hb=>by cases hb) (by decide) (by omega)
 obtain⟨c5,rfl,c51,c52,c53⟩:=hcode5 R5.shape.pos
 obtain⟨q1,q2⟩:=ru 600 x4 (N3.push (.cells true [.int .u8 1])) M5 (some ⟨c5,0,some 5⟩) (C6 []).length (C6 []).length 3 25 0 0 9 0
 obtain⟨x5,h5⟩:=C4 DV rfl Hj GI q1 q2 (AB e5 (AB nc (λq hq=>by cases hq)))
 have xI5:=Jj M5 (.slice (some ⟨c5,0,some 5⟩) (C6 []).length (C6 []).length)
 have gI5:=P9 M5 (.slice (some ⟨c5,0,some 5⟩) (C6 []).length (C6 []).length)
 obtain⟨N5,hN5⟩:∃N5,Z7 M5 (.slice (some ⟨c5,0,some 5⟩) (C6 []).length (C6 []).length)=N5:=⟨_,rfl⟩
 rw[hN5]at xI5 gI5 h5
 have v5:=(v3.trans xp).trans (y5.trans xI5)
 have t5:=hm.ext v5
 have c50:c5≠0:=by
  have h2:=t4.pos;rintro rfl;rw[CB (by omega)]at c52;cases c52
 have e6:oK 6 [.agg ⟨F9 (.slice (some ⟨c5,0,some 5⟩) (C6 []).length (C6 []).length)⟩, .slice none 0 0, .int .u32 7] N5=some (.tuple ⟨[U 0, .bool true]⟩,N5):=by
  rw[nS];exact OQ R5 t5.top t5.gl0 t5.pos (Nat.lt_of_lt_of_le c51 xI5.size) c50 ((xI5.get c5 c51).trans c53) (.inl ⟨rfl,rfl⟩)
 obtain⟨q1,q2⟩:=ry 600 x5 N5 (some ⟨c5,0,some 5⟩) (C6 []).length (C6 []).length M5.size 3 25 0 0 9 0 0
 obtain⟨x6,h6⟩:=C4 DV rfl Hj GI q1 q2 (AB (Mz gI5 rfl) (AB e6 (λq hq=>by cases hq)))
 obtain⟨M7,e7,y7⟩:=P6 (t5.ext (Ji N5 (tV 9 0 0 0 0 0))) (rs:=kI) (HG (by decide+kernel)) (NA N5 ⟨false,9,0,0,0,0,0⟩)
 rw[eN]at e7
 obtain⟨q1,q2⟩:=rz 600 x6 N5 M7 3 25 0 0 9 0 0 (JL kI:Int) 1
 obtain⟨x7,h7⟩:=C4 DV rfl Hj GI q1 q2 (AB e7 (λq hq=>by cases hq))
 exact⟨x7,M7,v5.trans ((Ji N5 _).trans y7),GJ (j:=4) (l:=8) h1 (GJ (j:=1) (l:=7) h2 (GJ (j:=1) (l:=6) h3 (GJ (j:=1) (l:=5) h4 (GJ (j:=1) (l:=4) h5 (GJ (j:=1) (l:=3) h6 h7)))))⟩
noncomputable def kR(c:Code)(i:Nat):Code:=match(items c)[i]? with|some (.block _ (.loop c))=>c|_=> .skip
noncomputable def nf(c:Code)(i:Nat):Code:=match(items c)[i]? with|some (.block _ c)=>c|_=> .skip
noncomputable def Zb(c:Code)(i:Nat):Code:=match(items c)[i]? with|some c=>c|_=> .skip
noncomputable def bO:Code:=kR cK 12
noncomputable def gT:Code:=nf bO 2
noncomputable def kS:Code:=Zb bO 3
theorem kT:(items bO).drop 2= [.block 1 gT,kS]:=by kernel_rfl
structure LH where
 lt:Bool:=false
 eq:Bool:=false
 ts:Value:=undef
 xv:List Value:= []
 x0:List Value:= []
 nr:List Value:= []
 a1:Value:=undef
 N1:Mem:=⟨λ_=> .none, .nil,0⟩
 a2:Value:=undef
 N2:Mem:=⟨λ_=> .none, .nil,0⟩
noncomputable def ng(d:LH):H.Hint where
 ix t:=Nat.beq t 36
 ld _ t _:=cond (Nat.beq t 25) (some d.ts) (cond (Nat.beq t 24) (some (.agg ⟨d.xv⟩)) none)
 cmp op t:=cond (Nat.beq t 3) (BinOp.rec (motive:=λ_=>Option Bool) none none none none none none none none none none none (some d.eq) none (some d.lt) none none none op) none
 ap _:=none
 call f:=cond (Nat.beq f 4) (some undef) (cond (Nat.beq f 5) (some undef) (cond (Nat.beq f 6) (some undef) (cond (Nat.beq f 7) (some undef) none)))
 spec _ _ _ _:=False
 blk:=0
 st t _:=cond (Nat.beq t 24) (some (.cells true d.x0)) (cond (Nat.beq t 22) (some (.cells true d.xv)) (cond (Nat.beq t 25) (some (.cells true d.nr)) none))
 apO x:=match x with| .tmp 88=>some (d.a1,d.N1)| .tmp 106=>some (d.a2,d.N2)|_=>none
noncomputable def pL(d:LH)(c:Code)(k:Nat)(ds:List Nat)(x:Nat->Value)(M:Mem):=dw (ng d) Tryd.prog kp k c 193 ds (AA 193 x) M
noncomputable def HR:List Nat:= [0,4,5,6,8,9,10,12,13,14,16,17,80]
noncomputable def v0(l:Value)(k:Int):List Value:= [.bool false,I 3,I 25,I 0,I 0,U 9, .bool true,I 0,U 0, .bool true,I 1,l,I k]
noncomputable def NB(c n:Nat):Value:= .slice (some ⟨c,0,some 2⟩) n n
noncomputable def mT(i r:Int)(b:Bool):Prop:=CC Tryd.prog kp .eql 3 (.int .i64 (Int.tmod i 6)) (.int .i64 0)=some (.bool b)
noncomputable def kU(i m:Int)(b:Bool):Prop:=CC Tryd.prog kp .lss 3 (.int .i64 i) (.int .i64 m)=some (.bool b)
noncomputable def Wt(t:TypeId)(M:Mem)(s x a:Value)(N:Mem):Prop:=Bp Tryd.prog M t t s x=some (a,N)
noncomputable def pS(n:Nat):Prop:=0<=IntKind.wrap .i64 (Int.sub (Int.ofNat n) 1)/\IntKind.wrap .i64 (Int.sub (Int.ofNat n) 1)< (n:Int)
noncomputable def Zc(n:Nat):Nat:=Nat.add (Nat.add 0 (Nat.mul (IntKind.wrap .i64 (Int.sub (Int.ofNat n) 1)).toNat 2)) 0
noncomputable def Pr:List Value:=tV 1 0 0 0 0 9
noncomputable def Zd:List Value:=tV 1 0 0 0 1 9
noncomputable def xA(N:Mem):Mem:=(N.push (.cells true (tV 0 0 0 0 0 0))).set N.size (.cells true Pr)
noncomputable def xB(N:Mem):Mem:=(xA N).set N.size (.cells true Zd)
noncomputable def OR(M:Mem):Mem:=M.push (.cells true [.slice none 0 0, .int .u32 1])
noncomputable def kV(N:Mem):Prop:=H.stOk Tryd.prog ((xA N).get N.size) 22 (Nat.add 0 5) (.int .u64 1) (.cells true Zd)
noncomputable def Ww(N1 Nx N2:Mem)(c n:Nat)(ts a2:Value)(xv nr:List Value):List Prop:=
 [pS n,H.ldOk (Nx.get c) (Zc n) false 1 ts,TC Nx N1.size 7 xv,Wt 25 (Nx.push (.cells true xv)) ts (DS Nx.size 1) a2 N2,pS n,H.stOk Tryd.prog (N2.get c) 25 (Zc n) a2 (.cells true nr)]
section
variable(k:Nat)(x:Nat->Value)(M N1 N2:Mem)(l a2:Value)(c n tn tc:Nat)(ta:Option Addr)(nr:List Value)(i:Int)
theorem nh:Pq (pL {lt:=true,eq:=true,ts:= .slice ta tn tc,xv:=Zd,x0:=Pr,nr:=nr,a1:=NB c n,N1:=N1,a2:=a2,N2:=N2} gT k HR (up x (HR.zip (v0 l i))) M)
  ((.normal,v0 (NB c n) i,N2.set c (.cells true nr)),[mT i 6 true,Wt 36 (OR M) l (DS M.size 1) (NB c n) N1,VA 24 N1 (tV 0 0 0 0 0 0) Pr,kU i 5 true,kV N1]++Ww N1 (xB N1) N2 c n (.slice ta tn tc) a2 Zd nr):=⟨by kernel_rfl,by kernel_rfl⟩
theorem ni:Pq (pL {lt:=false,eq:=true,ts:= .slice ta tn tc,xv:=Pr,x0:=Pr,nr:=nr,a1:=NB c n,N1:=N1,a2:=a2,N2:=N2} gT k HR (up x (HR.zip (v0 l i))) M)
  ((.normal,v0 (NB c n) i,N2.set c (.cells true nr)),[mT i 6 true,Wt 36 (OR M) l (DS M.size 1) (NB c n) N1,VA 24 N1 (tV 0 0 0 0 0 0) Pr,kU i 5 false]++Ww N1 (xA N1) N2 c n (.slice ta tn tc) a2 Pr nr):=⟨by kernel_rfl,by kernel_rfl⟩
theorem nj:Pq (pL {lt:=true,eq:=false,ts:= .slice ta tn tc,xv:=Zd,x0:=Pr,nr:=nr,a1:=NB c n,N1:=N1,a2:=a2,N2:=N2} gT k HR (up x (HR.zip (v0 (NB c n) i))) M)
  ((.normal,v0 (NB c n) i,N2.set c (.cells true nr)),[mT i 6 false,VA 24 M (tV 0 0 0 0 0 0) Pr,kU i 5 true,kV M]++Ww M (xB M) N2 c n (.slice ta tn tc) a2 Zd nr):=⟨by kernel_rfl,by kernel_rfl⟩
theorem nk:Pq (pL {lt:=false,eq:=false,ts:= .slice ta tn tc,xv:=Pr,x0:=Pr,nr:=nr,a1:=NB c n,N1:=N1,a2:=a2,N2:=N2} gT k HR (up x (HR.zip (v0 (NB c n) i))) M)
  ((.normal,v0 (NB c n) i,N2.set c (.cells true nr)),[mT i 6 false,VA 24 M (tV 0 0 0 0 0 0) Pr,kU i 5 false]++Ww M (xA M) N2 c n (.slice ta tn tc) a2 Pr nr):=⟨by kernel_rfl,by kernel_rfl⟩
theorem nm(lt:Bool):Pq (pL {lt:=lt} (Gz ((items bO).take 2)) k HR (up x (HR.zip (v0 l i))) M) ((cond lt .normal (.exit 0),v0 l i,M),[kU i 46 lt]):=by
 cases lt<;>exact⟨by kernel_rfl,by kernel_rfl⟩
theorem sB:Pq (pL {} kS k HR (up x (HR.zip (v0 l i))) M) ((.normal,v0 l (IntKind.wrap .i64 (Int.add i 1)),M),[]):=⟨by kernel_rfl,by kernel_rfl⟩
end
noncomputable def pT(t n:Nat):Value:= .slice (some ⟨t,0,some 7⟩) n n
theorem mQ:Tryd.prog.underlying 36=some (.slice 28):=by kernel_rfl
theorem tG:Tryd.prog.underlying 25=some (.slice 24):=by kernel_rfl
theorem eS:bytesOf Tryd.prog 28=some 32:=by kernel_rfl
theorem nq:bytesOf Tryd.prog 24=some 56:=by kernel_rfl
theorem kW:(D5 Tryd.prog 28 1).isSome=true:=by kernel_rfl
theorem ns:(D5 Tryd.prog 24 1).isSome=true:=by kernel_rfl
theorem sC:Bh Tryd.prog 25=some 1:=by kernel_rfl
theorem sD:Bh Tryd.prog 22=some 1:=by kernel_rfl
def TB(M:Mem)(c lo hi:Nat)(v:Value)(ts:List A7):Prop:=(ts= []/\v= .slice none 0 0)\/∃t,v=pT t ts.length/\lo<=t/\t<hi/\t≠c/\M.get t= .cells true (ts.flatMap AR)
structure IQ(M:Mem)(c b:Nat)(pre:List (Value×A5))(v:Value)(r:A5):Prop where
 lt:c<M.size
 pos:1<=c
 bpos:1<=b
 ble:b<=M.size
 get:M.get c= .cells true ((pre++ [(v,r)]).flatMap B9)
 last:TB M c b M.size v r.tests
 all:∀p∈pre,TB M c 1 b p.1 p.2.tests
theorem TB.slice{M:Mem}{c lo hi:Nat}{v:Value}{ts:List A7}(h:TB M c lo hi v ts):∃a n m,v= .slice a n m:=by
 rcases h with⟨_,rfl⟩|⟨t,rfl,_⟩
 ·exact⟨_,_,_,rfl⟩
 ·exact⟨_,_,_,rfl⟩
theorem TB.keep{M M':Mem}{c c' lo hi lo' hi':Nat}{v:Value}{ts:List A7}(h:TB M c lo hi v ts)(h1:lo'<=lo)(h2:hi<=hi')(hc:hi<=c'\/c'=c)(hg:∀t,lo<=t->t<hi->t≠c->M'.get t=M.get t):TB M' c' lo' hi' v ts:=by
 rcases h with h|⟨t,g1,g2,g3,g4,g5⟩
 ·exact .inl h
 ·exact .inr ⟨t,g1,Nat.le_trans h1 g2,Nat.lt_of_lt_of_le g3 h2,by rcases hc with hc|rfl<;>omega,(hg t g2 g3 g4).trans g5⟩
theorem K3:∀{vr:List (Value×A5)},(∀x∈vr,∃a n m,x.1= .slice a n m)->(vr.flatMap B9).all one=true
 | [],_=>rfl
 |x::vr,h=>by
  obtain⟨v,r⟩:=x;obtain⟨a,n,c,e⟩:=h (v,r) (List.mem_cons_self ..);have e:v= .slice a n c:=e;subst e;show(B9 (.slice a n c,r)++vr.flatMap B9).all one=true;rw[List.all_append,K3 λx hx=>h x (List.mem_cons_of_mem _ hx)];rfl
theorem Wx(ts:List A7):(ts.flatMap AR).all one=true:=by
 rw[List.all_flatMap,List.all_eq_true]
 intro x _
 rfl
theorem IQ.slices{M:Mem}{c b:Nat}{pre:List (Value×A5)}{v:Value}{r:A5}(h:IQ M c b pre v r):∀x∈pre++ [(v,r)],∃a n m,x.1= .slice a n m:=λx hx=>by
 rcases List.mem_append.1 hx with hx|hx
 ·exact(h.all x hx).slice
 ·obtain rfl:=List.mem_singleton.1 hx;exact h.last.slice
theorem TF{M:Mem}(hz:1<=M.size):∃c N,Wt 36 (OR M) (.slice none 0 0) (DS M.size 1) (NB c 1) N/\IQ N c N.size [] (.slice none 0 0) ⟨[],1⟩/\(∀t,t<M.size->N.get t=M.get t)/\M.size<=N.size/\(M.top->N.top):=by
 have hg:(OR M).get M.size= .cells true [.slice none 0 0, .int .u32 1]:=Mem.get_push_same ..
 have hf:CG (OR M) 2 1 (DS M.size 1)=some [.slice none 0 0, .int .u32 1]:=E6 (rest:= []) (by rw[List.append_nil];exact hg) rfl
 have x2:Ext M ((OR M).push (.cells true [.slice none 0 0, .int .u32 1])):=(Ext.push M _).trans (Ext.push _ _)
 have hs:((OR M).push (.cells true [.slice none 0 0, .int .u32 1])).size=M.size+2:=rfl
 refine⟨(OR M).size,_,append_nil mQ mR (by decide) eS (by decide) kW (n:=1) rfl (by decide) (by decide) hf rfl rfl,⟨?_,?_,by omega,Nat.le_refl _,?_, .inl ⟨rfl,rfl⟩,λp hp=>by cases hp⟩,λt ht=>x2.get t ht,x2.size,x2.top⟩
 ·show M.size+1<M.size+2;omega
 ·show 1<=M.size+1;omega
 ·exact Mem.get_push_same ..
theorem NC{M:Mem}{b:Nat}{x:BI}(h:M.top)(hb:b<M.size):((M.push x).set b .none).top:=λj hj=>by
 have hj:M.size+1<=j:=hj
 rw[Mem.get_set_ne _ (by omega),Mem.get_push_ne _ (by omega)]
 exact h j (by omega)
theorem Wy{M:Mem}{c b:Nat}{pre:List (Value×A5)}{v:Value}{r:A5}(h:IQ M c b pre v r)(hn:pre.length<=1000):
  ∃c' N,Wt 36 (OR M) (NB c (pre.length+1)) (DS M.size 1) (NB c' (pre.length+1+1)) N/\IQ N c' N.size (pre++ [(v,r)]) (.slice none 0 0) ⟨[],1⟩/\(∀t,t<M.size->t≠c->N.get t=M.get t)/\M.size<=N.size/\(M.top->N.top):=by
 have hlt:=h.lt
 have hg0:(OR M).get M.size= .cells true [.slice none 0 0, .int .u32 1]:=Mem.get_push_same ..
 have hf:CG (OR M) 2 1 (DS M.size 1)=some [.slice none 0 0, .int .u32 1]:=E6 (rest:= []) (by rw[List.append_nil];exact hg0) rfl
 have hg:(OR M).get c= .cells true ((pre++ [(v,r)]).flatMap B9):=by
  unfold OR;rw[Mem.get_push_ne _ (by omega)];exact h.get
 have hl:((pre++ [(v,r)]).flatMap B9).length=(pre.length+1)*2:=by rw[DL CJ,List.length_append];rfl
 have hap:=Iq (P:=Tryd.prog) (t:=36) (n:=1) (x:=DS M.size 1) mQ mR (by decide) eS (by decide) kW hg hl (K3 h.slices) rfl (by decide) (by constructor<;>omega) hf rfl rfl
 have hget:∀t,t<M.size->t≠c->(((OR M).push (.cells true ((pre++ [(v,r)]).flatMap B9++ [.slice none 0 0, .int .u32 1]))).set c .none).get t=M.get t:=λt ht hc=>by
  rw[Mem.get_set_ne _ (by omega),Mem.get_push_ne _ (by show t≠M.size+1;omega)];unfold OR;rw[Mem.get_push_ne _ (by omega)]
 have hsz:(((OR M).push (.cells true ((pre++ [(v,r)]).flatMap B9++ [.slice none 0 0, .int .u32 1]))).set c .none).size=M.size+2:=rfl
 refine⟨(OR M).size,_,hap,⟨?_,?_,by omega,Nat.le_refl _,?_, .inl ⟨rfl,rfl⟩,λp hp=>?_⟩,hget,by omega,λht=>NC ((Ext.push M _).top ht) (by show c<M.size+1;omega)⟩
 ·show M.size+1<M.size+2;omega
 ·show 1<=M.size+1;omega
 ·rw[Mem.get_set_ne _ (by show M.size+1≠c;omega)];rw[show(OR M).size=(OR M).size from rfl,Mem.get_push_same,List.flatMap_append];simp[B9]
 ·have hb:=h.ble;rcases List.mem_append.1 hp with hp|hp
  ·exact(h.all p hp).keep (Nat.le_refl _) (by omega) (.inl (by show b<=M.size+1;omega)) λt h1 h2 h3=>hget t (by omega) h3
  ·obtain rfl:=List.mem_singleton.1 hp;exact h.last.keep h.bpos (by omega) (.inl (by show M.size<=M.size+1;omega)) λt h1 h2 h3=>hget t h2 h3
theorem Wz{N:Mem}{Nx:Mem}{c b:Nat}{pre:List (Value×A5)}{v:Value}{r:A5}{t:A7}(h:IQ N c b pre v r)(hx:∀j,j<N.size->Nx.get j=N.get j)(hxs:Nx.size=N.size+1)(ht:Nx.top)(hn:r.tests.length<=1000):
  ∃a2 N2,Wt 25 (Nx.push (.cells true (AR t))) v (DS Nx.size 1) a2 N2/\N2.get c=N.get c/\
   IQ (N2.set c (.cells true ((pre++ [(a2,(⟨r.tests++ [t],r.verdict⟩:A5))]).flatMap B9))) c b pre a2 ⟨r.tests++ [t],r.verdict⟩/\N2.size=N.size+3/\(N2.set c (.cells true ((pre++ [(a2,(⟨r.tests++ [t],r.verdict⟩:A5))]).flatMap B9))).top/\(N2.set c (.cells true ((pre++ [(a2,(⟨r.tests++ [t],r.verdict⟩:A5))]).flatMap B9))).get 0=N.get 0/\∃a n,a2= .slice a n n:=by
 have hlt:=h.lt
 have hpos:=h.pos
 have hbp:=h.bpos
 have hbl:=h.ble
 have hg0:(Nx.push (.cells true (AR t))).get Nx.size= .cells true (AR t):=Mem.get_push_same ..
 have hf:CG (Nx.push (.cells true (AR t))) 7 1 (DS Nx.size 1)=some (AR t):=E6 (rest:= []) (by rw[List.append_nil];exact hg0) rfl
 have hgp:∀j,j<N.size->(Nx.push (.cells true (AR t))).get j=N.get j:=λj hj=>by
  rw[Mem.get_push_ne _ (by omega)];exact hx j hj
 have top1:(Nx.push (.cells true (AR t))).top:=(Ext.push _ _).top ht
 have tops:∀{N2:Mem} {x:BI},N2.top->c<N2.size->(N2.set c x).top:=λ{N2 x} h1 h2 j hj=>by
  have hj:N2.size<=j:=hj;rw[Mem.get_set_ne _ (by omega)];exact h1 j hj
 rcases h.last with⟨he,rfl⟩|⟨tb,rfl,g2,g3,g4,g5⟩
 ·rw[he];have hap:=append_nil (P:=Tryd.prog) (t:=25) (n:=1) (x:=DS Nx.size 1) tG kQ (by decide) nq (by decide) ns rfl (by decide) (by decide) hf rfl rfl
  have hget:∀j,j<N.size->((Nx.push (.cells true (AR t))).push (.cells true (AR t))).get j=N.get j:=λj hj=>by
   rw[Mem.get_push_ne _ (by show j≠Nx.size+1;omega)];exact hgp j hj
  have hsz:((Nx.push (.cells true (AR t))).push (.cells true (AR t))).size=Nx.size+2:=rfl;refine⟨pT (Nx.size+1) 1,(Nx.push (.cells true (AR t))).push (.cells true (AR t)),hap,hget c hlt,⟨?_,hpos,hbp,?_,Mem.get_set_same .., .inr ⟨Nx.size+1,rfl,by omega,?_,by omega,?_⟩,λp hp=>?_⟩,by omega,tops ((Ext.push _ _).top top1) (by omega),?_,_,_,rfl⟩
  ·show c<Nx.size+2;omega
  ·show b<=Nx.size+2;omega
  ·show Nx.size+1<Nx.size+2;omega
  ·rw[Mem.get_set_ne _ (by omega)];rw[show Nx.size+1=(Nx.push (.cells true (AR t))).size from rfl,Mem.get_push_same];simp
  ·exact(h.all p hp).keep (Nat.le_refl _) (Nat.le_refl _) (.inr rfl) λj h1 h2 h3=>by
    rw[Mem.get_set_ne _ (by omega)];exact hget j (by omega)
  ·rw[Mem.get_set_ne _ (by omega)];exact hget 0 (by omega)
 ·have hgt:(Nx.push (.cells true (AR t))).get tb= .cells true (r.tests.flatMap AR):=(hgp tb g3).trans g5;have hap:=Iq (P:=Tryd.prog) (t:=25) (n:=1) (x:=DS Nx.size 1) tG kQ (by decide) nq (by decide) ns hgt (DL Dl _) (Wx _) rfl (by decide) (by constructor<;>omega) hf rfl rfl
  have hget:∀j,j<N.size->j≠tb->(((Nx.push (.cells true (AR t))).push (.cells true (r.tests.flatMap AR++AR t))).set tb .none).get j=N.get j:=λj hj hne=>by
   rw[Mem.get_set_ne _ (by omega),Mem.get_push_ne _ (by show j≠Nx.size+1;omega)];exact hgp j hj
  have hsz:(((Nx.push (.cells true (AR t))).push (.cells true (r.tests.flatMap AR++AR t))).set tb .none).size=Nx.size+2:=rfl;refine⟨pT (Nx.size+1) (r.tests.length+1),((Nx.push (.cells true (AR t))).push (.cells true (r.tests.flatMap AR++AR t))).set tb .none,hap,hget c hlt (by omega),⟨?_,hpos,hbp,?_,Mem.get_set_same .., .inr ⟨Nx.size+1,?_,by omega,?_,by omega,?_⟩,λp hp=>?_⟩,by omega,tops (NC top1 (by show tb<Nx.size+1;omega)) (by omega),?_,_,_,rfl⟩
  ·show c<Nx.size+2;omega
  ·show b<=Nx.size+2;omega
  ·show _=pT (Nx.size+1) (r.tests++ [t]).length;rw[List.length_append];rfl
  ·show Nx.size+1<Nx.size+2;omega
  ·rw[Mem.get_set_ne _ (by omega),Mem.get_set_ne _ (by omega)];rw[show Nx.size+1=(Nx.push (.cells true (AR t))).size from rfl,Mem.get_push_same];simp
  ·exact(h.all p hp).keep (Nat.le_refl _) (Nat.le_refl _) (.inr rfl) λj h1 h2 h3=>by
    rw[Mem.get_set_ne _ (by omega)];exact hget j (by omega) (by omega)
  ·rw[Mem.get_set_ne _ (by omega)];exact hget 0 (by omega) (by omega)
theorem JC{d:LH}(f:FuncId)(v:Value)(args:List Value)(m:Mem)(hc:(ng d).call f=some v)(hs:(ng d).says f args m v):oK f args m=some (v,(ng d).eff f m):=hs.elim
theorem HH{d:LH}(f:FuncId)(hc:(ng d).call f=none)(a:List Value)(m:Mem):oK f a m=none:=
 Sw (by rintro rfl;cases hc) (by rintro rfl;cases hc) (by rintro rfl;cases hc) (by rintro rfl;cases hc) a m
theorem VB{a b:List Prop}(ha:∀q∈a,q)(hb:∀q∈b,q):∀q∈a++b,q:=λq hq=>by
 rcases List.mem_append.1 hq with h|h
 ·exact ha q h
 ·exact hb q h
theorem K4(l:List A5)(r:A5)(t:A7):Sx (l++ [r]) t=l++ [⟨r.tests++ [t],r.verdict⟩]:=by
 induction l with
 |nil=>rfl
 |cons a l ih=>
  cases l with
  |nil=>rfl
  |cons b l=>
   show a::Sx (b::l++ [r]) t=_;rw[ih];rfl
theorem OS{x:Int}(h: -9223372036854775808<=x/\x<=9223372036854775807):IntKind.wrap .i64 x=x:=IntWalk.i64_in _ h
theorem OT{p:Nat}(h:p<=1000000):IntKind.wrap .i64 (Int.sub (Int.ofNat (p+1)) 1)=(p:Int):=by
 have:Int.sub (Int.ofNat (p+1)) 1=(p:Int):=by show((p+1:Nat):Int) - 1=p;omega
 rw[this]
 exact OS ⟨by omega,by omega⟩
theorem kX{p:Nat}(h:p<=1000000):pS (p+1):=by
 unfold pS
 rw[OT h]
 exact⟨by omega,by omega⟩
theorem VC{p:Nat}(h:p<=1000000):Zc (p+1)=p*2:=by
 unfold Zc
 rw[OT h]
 show 0+(p:Int).toNat*2+0=p*2
 rw[Int.toNat_natCast];omega
theorem kY{k:Nat}:mT (k:Int) 6 (decide (k % 6=0)):=by
 unfold mT
 have e:Int.tmod (k:Int) 6=((k % 6:Nat):Int):=by
  rw[Int.tmod_eq_emod_of_nonneg (by omega)];omega
 rw[e]
 by_cases h:k % 6=0
 ·rw[decide_eq_true h];simp[CC,CA,CN];omega
 ·rw[decide_eq_false h];simp[CC,CA,CN];omega
theorem TG{k m:Nat}:kU (k:Int) (m:Int) (decide (k<m)):=by
 unfold kU
 by_cases h:k<m
 ·rw[decide_eq_true h];simp[CC,CA,CN];omega
 ·rw[decide_eq_false h];simp[CC,CA,CN];omega
theorem Ze(k:Nat):AR (Jf k)=if k<5 then Zd else Pr:=by
 by_cases h:k<5
 ·rw[if_pos h];unfold Jf;rw[if_pos h];rfl
 ·rw[if_neg h];unfold Jf;rw[if_neg h];rfl
theorem Zf(N:Mem):(xA N).get N.size= .cells true Pr:=Mem.get_set_same ..
theorem kZ(N:Mem):(xB N).get N.size= .cells true Zd:=Mem.get_set_same ..
theorem VD(N:Mem):kV N:=λm b hg=>by
 rw[Zf]at hg
 rw[Cn (n:=1) sD rfl hg (by decide) rfl]
 rfl
theorem eT{M:Mem}{c:Nat}{pre:List (Value×A5)}{v a2:Value}{r r':A5}(hv:r'.verdict=r.verdict) (hg:M.get c= .cells true ((pre++ [(v,r)]).flatMap B9)) (ha:∃a n,a2= .slice a n n) (hp:pre.length<=1000000):
  H.stOk Tryd.prog (M.get c) 25 (Zc (pre.length+1)) a2 (.cells true ((pre++ [(a2,r')]).flatMap B9)):=λm b hm=>by
 obtain⟨a,n,rfl⟩:=ha
 rw[hg]at hm
 rw[VC hp,Cn (n:=1) sC rfl hm (by rw[DL CJ,List.length_append,List.length_singleton];omega) rfl]
 congr 2
 rw[List.flatMap_append,List.flatMap_append]
 have hl:(pre.flatMap B9).length=pre.length*2:=DL CJ pre
 show BI.cells true (splice (pre.flatMap B9++ [v, .int .u32 r.verdict]) (pre.length*2) [.slice a n n])= .cells true (pre.flatMap B9++ [.slice a n n, .int .u32 r'.verdict])
 unfold splice
 rw[←hl,List.take_left,show(pre.flatMap B9).length+ [Value.slice a n n].length=(pre.flatMap B9).length+1 from rfl,List.drop_length_add_append,hv]
 rfl
structure mU(M:Mem)(rs:List A5)(l:Value)(k:Nat):Prop where
 top:Pp M
 len:rs.length<=k
 tst:∀r∈rs,r.tests.length<=k
 out:(k=0/\rs= []/\l= .slice none 0 0)\/∃c b pre v r,rs=pre.map (·.2)++ [r]/\l=NB c (pre.length+1)/\IQ M c b pre v r
noncomputable abbrev K5:AE->Mem->Option (Ex×AE×Mem):=AH Tryd.prog kp 1 NR (A6 Tryd.prog kp 1 NR 193) 193 600 bO
theorem half{N:Mem}{c b:Nat}{pre:List (Value×A5)}{v:Value}{r:A5}{k:Nat}(hT:Pp N)(h:IQ N c b pre v r)(hn:r.tests.length<=1000)(hp:pre.length<=1000)(hverd:True):
  ∃ta tn tc a2 N2,v= .slice ta tn tc/\(∀q∈Ww N (if k<5 then xB N else xA N) N2 c (pre.length+1) v a2 (if k<5 then Zd else Pr) ((pre++ [(a2,(⟨r.tests++ [Jf k],r.verdict⟩:A5))]).flatMap B9),q)/\
   IQ (N2.set c (.cells true ((pre++ [(a2,(⟨r.tests++ [Jf k],r.verdict⟩:A5))]).flatMap B9))) c b pre a2 ⟨r.tests++ [Jf k],r.verdict⟩/\Pp (N2.set c (.cells true ((pre++ [(a2,(⟨r.tests++ [Jf k],r.verdict⟩:A5))]).flatMap B9))):=by
 have hlt:=h.lt
 have hxA:Ext N (xA N):=Ext.fresh
 have hsA:(xA N).size=N.size+1:=rfl
 have hsB:(xB N).size=N.size+1:=rfl
 have hgX:∀j,j<N.size->(if k<5 then xB N else xA N).get j=N.get j:=λj hj=>by
  split
  ·unfold xB;rw[Mem.get_set_ne _ (by omega)];exact hxA.get j hj
  ·exact hxA.get j hj
 have hsX:(if k<5 then xB N else xA N).size=N.size+1:=by split<;>assumption
 have htX:(if k<5 then xB N else xA N).top:=by
  split
  ·intro j hj;have hj:N.size+1<=j:=hj;unfold xB;rw[Mem.get_set_ne _ (by omega)];exact hxA.top hT.top j hj
  ·exact hxA.top hT.top
 have hbX:(if k<5 then xB N else xA N).get N.size= .cells true (if k<5 then Zd else Pr):=by
  split
  ·exact kZ N
  ·exact Zf N
 obtain⟨a2,N2,h1,h2,h3,h4,h5,h6,h7⟩:=Wz (t:=Jf k) h hgX hsX htX hn
 obtain⟨ta,tn,tc,hv⟩:=h.last.slice
 rw[Ze]at h1
 have pix:=kX (p:=pre.length) (by omega)
 refine⟨ta,tn,tc,a2,N2,hv,?_,h3,⟨h5,?_,h6.trans hT.gl0⟩⟩
 ·refine AB pix (AB ?_ (AB (Mz hbX (by split<;>rfl)) (AB h1 (AB pix (AB ?_ A8)))))
  ·rw[hgX c hlt,h.get,VC (by omega)];show((pre++ [(v,r)]).flatMap B9)[pre.length*2]?=some v;have hl:(pre.flatMap B9).length=pre.length*2:=DL CJ pre;rw[List.flatMap_append,List.getElem?_append_right (by omega),hl,Nat.sub_self];rfl
  ·exact eT (r:=r) (v:=v) rfl (h2.trans h.get) h7 (by omega)
 ·have:=hT.pos;show 1<=N2.size;omega
theorem Zg{M:Mem}{rs:List A5}{l:Value}{k:Nat}(hk:k<46)(S:mU M rs l k)(x:Nat->Value):
  ∃x' M' l',K5 (AA 193 (up x (HR.zip (v0 l k)))) M=some (.normal,AA 193 (up x' (HR.zip (v0 l' ((k+1:Nat):Int)))),M')/\mU M' (Jg rs k) l' (k+1):=by
 obtain⟨q1,q2⟩:=nm 600 x M l (k:Int) true
 obtain⟨x1,h1⟩:=C4 (x:=up x (HR.zip (v0 l k))) DV rfl JC HH q1 q2 (AB (by have:=TG (k:=k) (m:=46);rw[decide_eq_true hk]at this;exact this) A8)
 have hcut:K5 (AA 193 (up x (HR.zip (v0 l k)))) M=AH Tryd.prog kp 1 NR (A6 Tryd.prog kp 1 NR 193) 193 600 (.seq (.block 1 gT) kS) (AA 193 (up x1 (HR.zip (v0 l k)))) M:=by
  rw[show K5 _ M=_ from Wd 2 bO h1,kT];rfl
 have fin:∀{x2:Nat->Value} {l':Value} {M':Mem},AH Tryd.prog kp 1 NR (A6 Tryd.prog kp 1 NR 193) 193 600 gT (AA 193 (up x1 (HR.zip (v0 l k)))) M=some (.normal,AA 193 (up x2 (HR.zip (v0 l' k))),M')->
   ∃x3,K5 (AA 193 (up x (HR.zip (v0 l k)))) M=some (.normal,AA 193 (up x3 (HR.zip (v0 l' ((k+1:Nat):Int)))),M'):=λ{x2 l' M'} h2=>by
  obtain⟨q1,q2⟩:=sB 600 x2 M' l' (k:Int);obtain⟨x3,h3⟩:=C4 (x:=up x2 (HR.zip (v0 l' k))) DV rfl JC HH q1 q2 A8
  have e:IntKind.wrap .i64 (Int.add (k:Int) 1)=((k+1:Nat):Int):=by
   show IntKind.wrap .i64 ((k:Int)+1)=_;rw[OS ⟨by omega,by omega⟩];omega
  rw[e]at h3;exact⟨x3,hcut.trans ((Yp h2).trans h3)⟩
 have e6:=kY (k:=k)
 have e5:=TG (k:=k) (m:=5)
 have done:∀{N:Mem} {c b:Nat} {pre:List (Value×A5)} {v:Value} {r:A5} (rs':List A5),Pp N->IQ N c b pre v r->rs'=pre.map (·.2)++ [r]->rs'.length<=k+1->(∀r∈rs',r.tests.length<=k)->Jg rs k=Sx rs' (Jf k)->
   (∀ta tn tc a2 N2 nr,v= .slice ta tn tc->(∀q∈Ww N (if k<5 then xB N else xA N) N2 c (pre.length+1) v a2 (if k<5 then Zd else Pr) nr,q)->∃x2,AH Tryd.prog kp 1 NR (A6 Tryd.prog kp 1 NR 193) 193 600 gT (AA 193 (up x1 (HR.zip (v0 l k)))) M=some (.normal,AA 193 (up x2 (HR.zip (v0 (NB c (pre.length+1)) k))),N2.set c (.cells true nr)))->
   ∃x' M' l',K5 (AA 193 (up x (HR.zip (v0 l k)))) M=some (.normal,AA 193 (up x' (HR.zip (v0 l' ((k+1:Nat):Int)))),M')/\mU M' (Jg rs k) l' (k+1):=λ{N c b pre v r} rs' hT h hrs hlen htst hgr hrun=>by
  subst hrs;have hpl:pre.length<=k:=by rw[List.length_append,List.length_map,List.length_singleton]at hlen;omega
  have hrt:=htst r (List.mem_append_right _ (List.mem_singleton.2 rfl));obtain⟨ta,tn,tc,a2,N2,hv,hps,ho,ht⟩:=half (k:=k) hT h (by omega) (by omega) trivial;obtain⟨x2,h2⟩:=hrun ta tn tc a2 N2 _ hv hps;obtain⟨x3,h3⟩:=fin h2;refine⟨x3,_,_,h3,⟨ht,?_,?_, .inr ⟨c,b,pre,a2,⟨r.tests++ [Jf k],r.verdict⟩,?_,rfl,ho⟩⟩⟩
  ·rw[hgr,K4,List.length_append,List.length_map,List.length_singleton];omega
  ·rw[hgr,K4];intro r' hr';rcases List.mem_append.1 hr' with hr'|hr'
   ·have:=htst r' (List.mem_append_left _ hr');omega
   ·obtain rfl:=List.mem_singleton.1 hr';show(r.tests++ [Jf k]).length<=k+1;rw[List.length_append,List.length_singleton];omega
  ·rw[hgr,K4]
 by_cases h6:k % 6=0
 ·rw[decide_eq_true h6]at e6;have hgr:Jg rs k=Sx (rs++ [⟨[],1⟩]) (Jf k):=by unfold Jg;rw[if_pos h6]
  have htst:∀r∈rs++ [(⟨[],1⟩:A5)],r.tests.length<=k:=λr hr=>by
   rcases List.mem_append.1 hr with hr|hr
   ·exact S.tst r hr
   ·obtain rfl:=List.mem_singleton.1 hr;exact Nat.zero_le _
  have hlen:(rs++ [(⟨[],1⟩:A5)]).length<=k+1:=by
   have:=S.len;rw[List.length_append,List.length_singleton];omega
  have start:∃c N pre n,Wt 36 (OR M) l (DS M.size 1) (NB c (pre.length+1)) N/\IQ N c n pre (.slice none 0 0) ⟨[],1⟩/\rs++ [(⟨[],1⟩:A5)]=pre.map (·.2)++ [⟨[],1⟩]/\Pp N:=by
   rcases S.out with⟨_,rfl,rfl⟩|⟨c,b,pre,v,r,rfl,rfl,ho⟩
   ·obtain⟨c,N,g1,g2,g3,g4,g5⟩:=TF S.top.pos;exact⟨c,N,[],_,g1,g2,rfl,g5 S.top.top,Nat.le_trans S.top.pos g4,(g3 0 S.top.pos).trans S.top.gl0⟩
   ·have hl:=S.len;rw[List.length_append,List.length_map,List.length_singleton]at hl;obtain⟨c',N,g1,g2,g3,g4,g5⟩:=Wy ho (by omega);have hc:=ho.pos;refine⟨c',N,pre++ [(v,r)],_,?_,g2,by rw[List.map_append];rfl,g5 S.top.top,Nat.le_trans S.top.pos g4,(g3 0 S.top.pos (by omega)).trans S.top.gl0⟩;rw[List.length_append];exact g1
  obtain⟨c,N,pre,n,g1,g2,g3,g4⟩:=start;refine done _ g4 g2 g3 hlen htst hgr λta tn tc a2 N2 nr hv hps=>?_;rw[hv]at hps;by_cases h5:k<5
  ·rw[decide_eq_true h5]at e5;rw[if_pos h5,if_pos h5]at hps;obtain⟨q1,q2⟩:=nh 600 x1 M N N2 l a2 c (pre.length+1) tn tc ta nr (k:Int);exact C4 (x:=up x1 (HR.zip (v0 l k))) DV rfl JC HH q1 q2 (VB (AB e6 (AB g1 (AB (JB kQ rfl rfl rfl) (AB e5 (AB (VD N) A8))))) hps)
  ·rw[decide_eq_false h5]at e5;rw[if_neg h5,if_neg h5]at hps;obtain⟨q1,q2⟩:=ni 600 x1 M N N2 l a2 c (pre.length+1) tn tc ta nr (k:Int);exact C4 (x:=up x1 (HR.zip (v0 l k))) DV rfl JC HH q1 q2 (VB (AB e6 (AB g1 (AB (JB kQ rfl rfl rfl) (AB e5 A8)))) hps)
 ·rw[decide_eq_false h6]at e6;have hgr:Jg rs k=Sx rs (Jf k):=by unfold Jg;rw[if_neg h6]
  rcases S.out with⟨rfl,_⟩|⟨c,b,pre,v,r,hrs,rfl,ho⟩
  ·exact absurd rfl h6
  refine done rs S.top ho hrs (by have:=S.len;omega) S.tst hgr λta tn tc a2 N2 nr hv hps=>?_;rw[hv]at hps;by_cases h5:k<5
  ·rw[decide_eq_true h5]at e5;rw[if_pos h5,if_pos h5]at hps;obtain⟨q1,q2⟩:=nj 600 x1 M M N2 a2 c (pre.length+1) tn tc ta nr (k:Int);exact C4 (x:=up x1 (HR.zip (v0 (NB c (pre.length+1)) k))) DV rfl JC HH q1 q2 (VB (AB e6 (AB (JB kQ rfl rfl rfl) (AB e5 (AB (VD M) A8)))) hps)
  ·rw[decide_eq_false h5]at e5;rw[if_neg h5,if_neg h5]at hps;obtain⟨q1,q2⟩:=nk 600 x1 M M N2 a2 c (pre.length+1) tn tc ta nr (k:Int);exact C4 (x:=up x1 (HR.zip (v0 (NB c (pre.length+1)) k))) DV rfl JC HH q1 q2 (VB (AB e6 (AB (JB kQ rfl rfl rfl) (AB e5 A8))) hps)
theorem XA(k:Nat):OP (k+1)=Jg (OP k) k:=by
 unfold OP
 rw[List.range_succ,List.foldl_append]
 rfl
theorem VE:∀(j k:Nat),j+k=46->∀(M:Mem) (l:Value) (x:Nat->Value) (f:Nat),mU M (OP k) l k->j<f->∃x' M' l',B2 K5 f (AA 193 (up x (HR.zip (v0 l (k:Int))))) M=some (.exit 0,AA 193 (up x' (HR.zip (v0 l' ((46:Nat):Int)))),M')/\mU M' Cv l' 46
 |0,k,hj,M,l,x,f,S,hf=>by
  obtain rfl:k=46:=by omega
  obtain⟨f,rfl⟩:∃f',f=f'+1:=⟨f - 1,by omega⟩;obtain⟨q1,q2⟩:=nm 600 x M l ((46:Nat):Int) false;obtain⟨x1,h1⟩:=C4 (x:=up x (HR.zip (v0 l ((46:Nat):Int)))) DV rfl JC HH q1 q2 (AB (by have:=TG (k:=46) (m:=46);rw[decide_eq_false (by omega)]at this;exact this) A8);exact⟨x1,M,l,Db (So 2 bO (by simp) h1) (by simp),S⟩
 |j+1,k,hj,M,l,x,f,S,hf=>by
  obtain⟨f,rfl⟩:∃f',f=f'+1:=⟨f - 1,by omega⟩;obtain⟨x1,M1,l1,h1,S1⟩:=Zg (k:=k) (by omega) S x;rw[←XA]at S1;obtain⟨x2,M2,l2,h2,S2⟩:=VE j (k+1) (by omega) M1 l1 x1 f S1 (by omega);exact⟨x2,M2,l2,EE h1 h2,S2⟩
theorem TB.tsts{M:Mem}{c lo hi:Nat}{v:Value}{ts:List A7}(h:TB M c lo hi v ts)(hh:hi<=M.size):EW (Cg M) v ts:=by
 rcases h with⟨rfl,rfl⟩|⟨t,rfl,_,h2,_,h4⟩
 ·exact⟨none,0,rfl,λh=>absurd rfl h⟩
 ·refine⟨_,_,rfl,λ_=>⟨t,some 7,true,[],rfl,?_⟩⟩;rw[CB (by omega),h4,List.append_nil]
theorem IQ.rules{M:Mem}{c b:Nat}{pre:List (Value×A5)}{v:Value}{r:A5}(h:IQ M c b pre v r):∀x∈pre++ [(v,r)],EW (Cg M) x.1 x.2.tests:=λx hx=>by
 rcases List.mem_append.1 hx with hx|hx
 ·exact(h.all x hx).tsts h.ble
 ·obtain rfl:=List.mem_singleton.1 hx;exact h.last.tsts (Nat.le_refl _)
theorem IQ.tbs{M:Mem}{c b:Nat}{pre:List (Value×A5)}{v:Value}{r:A5}(h:IQ M c b pre v r):∀x∈pre++ [(v,r)],TB M c 1 M.size x.1 x.2.tests:=λx hx=>by
 rcases List.mem_append.1 hx with hx|hx
 ·exact(h.all x hx).keep (Nat.le_refl _) h.ble (.inr rfl) λ_ _ _ _=>rfl
 ·obtain rfl:=List.mem_singleton.1 hx;exact h.last.keep h.bpos (Nat.le_refl _) (.inr rfl) λ_ _ _ _=>rfl
theorem ND:Cv.length=8:=by decide+kernel
noncomputable def Sz:List Nat:= [0,4,5,6,8,9,10,12,13,14,16,17,20,21]
noncomputable def vM(l:Value)(b:Nat):List Value:= [.bool false,I 3,I 25,I 0,I 0,U 9, .bool true,I 0,U 0, .bool true,I 1,l,bx b,I 0]
theorem sE(k:Nat)(x:Nat->Value)(M M4:Mem)(a la:Option Addr)(n c ln lc:Nat)(i:Int):
  Pq (pK {cv:= .slice a n c,e:=0,M4:=M4} k 13 1 Sz (up x (HR.zip (v0 (.slice la ln lc) i))) M)
   ((.normal,vM (.slice la ln lc) M4.size,Z7 M4 (.slice a n c)),[oK 4 [.slice la ln lc] M=some (eR (.slice a n c) 0,M4),VA 32 M4 zI (F9 (.slice a n c))]):=⟨by kernel_rfl,by kernel_rfl⟩
structure sG(M:Mem)(l:Value)(b:Nat)(c:Nat)(vr:List (Value×A5)):Prop where
 top:Pp M
 eq:l=NB c 8
 lt:c<M.size
 pos:1<=c
 rules:vr.map (·.2)=Cv
 get:M.get c= .cells true (vr.flatMap B9)
 slc:∀x∈vr,∃a n m,x.1= .slice a n m
 tst:∀x∈vr,TB M c 1 M.size x.1 x.2.tests
 blt:b<M.size
 bne:b≠c
 box:∃a,M.get b= .cells true (F9 (.slice a 512 512))
theorem ka:((items cK).drop 12).take 1= [.block 0 (.loop bO)]:=by kernel_rfl
theorem Zh:mP Cv:=HG (by decide+kernel)
theorem kO{m:Mem}(hm:Pp m)(x:Nat->Value):∃x' M' l b c vr,runK 0 14 (AA 193 x) m=some (.normal,AA 193 (up x' (Sz.zip (vM l b))),M')/\sG M' l b c vr:=by
 obtain⟨x1,M1,y1,h1⟩:=Za hm x
 have S0:mU M1 (OP 0) (.slice none 0 0) 0:=⟨hm.ext y1,Nat.le_refl _,λr hr=>(by cases hr), .inl ⟨rfl,rfl,rfl⟩⟩
 obtain⟨x2,M2,l,h2,S2⟩:=VE 46 0 rfl M1 _ x1 600 S0 (by omega)
 have h2':runK 12 1 (AA 193 (up x1 pR)) M1=some (.normal,AA 193 (up x2 (HR.zip (v0 l ((46:Nat):Int)))),M2):=by
  unfold runK pQ;rw[ka];show AH Tryd.prog kp 1 NR (A6 Tryd.prog kp 1 NR 193) 193 600 (.block 0 (.loop bO)) (AA 193 (up x1 pR)) M1=_;have h2:B2 (AH Tryd.prog kp 1 NR (A6 Tryd.prog kp 1 NR 193) 193 600 bO) 600 (AA 193 (up x1 pR)) M1=_:=h2;simp only[AH,h2,if_true]
 obtain⟨_,hf⟩|⟨c,b,pre,v,r,e1,rfl,ho⟩:=S2.out
 ·have:=ND;rw[hf.1]at this;cases this
 have hn:pre.length+1=8:=by
  have:=ND;rw[e1,List.length_append,List.length_map,List.length_singleton]at this;exact this
 have hmap:(pre++ [(v,r)]).map (·.2)=Cv:=by rw[e1,List.map_append];rfl
 have hr:DH (Cg M2) (NB c (pre.length+1)) Cv:=by
  refine⟨_,8,by rw[hn,ND];rfl,λ_=>⟨c,some 2,true,[],pre++ [(v,r)],rfl,hmap,?_,ho.rules⟩⟩;rw[CB ho.lt,ho.get,List.append_nil]
 obtain⟨cv,M3,e3,y3,hc3⟩:=Jc S2.top Zh hr
 obtain⟨a3,rfl,_⟩:=hc3
 rw[RR]at e3
 obtain⟨q1,q2⟩:=sE 600 x2 M2 M3 a3 (some ⟨c,0,some 2⟩) (C6 Cv).length (C6 Cv).length (pre.length+1) (pre.length+1) ((46:Nat):Int)
 obtain⟨x3,h3⟩:=C4 (x:=up x2 (HR.zip (v0 (NB c (pre.length+1)) ((46:Nat):Int)))) DV rfl Hj GI q1 q2 (AB e3 (AB nc A8))
 have yI:=Jj M3 (.slice a3 (C6 Cv).length (C6 Cv).length)
 have y4:=y3.trans yI
 refine⟨x3,_,_,_,c,pre++ [(v,r)],GJ (j:=12) (l:=2) h1 (GJ (j:=1) (l:=1) h2' h3),S2.top.ext y4,(by rw[hn];rfl),Nat.lt_of_lt_of_le ho.lt y4.size,ho.pos,hmap,(y4.get c ho.lt).trans ho.get,ho.slices,λx hx=>(ho.tbs x hx).keep (Nat.le_refl _) y4.size (.inr rfl) λt _ ht _=>y4.get t ht,Nat.lt_succ_self M3.size,?_,a3,?_⟩
 ·have h1:=ho.lt;have h2:=y3.size;omega
 ·have:=P9 M3 (.slice a3 (C6 Cv).length (C6 Cv).length);rw[Z0]at this ⊢;exact this
end
end Go.Proofs.YtgjflcgmieiafaaDoor
namespace Go.DI
open Go.RowKit Go.DI.Kit
noncomputable section
section
variable{P:Program}{K:TypeId->Bool}{G B0 n:Nat}{ι:Ren}{m:Mem}{w:World}{t:AE}{a:Act}
theorem Wm(hr:Rel B0 G ι m w){b:Nat}{L:Loc}(hL:ι b=some L){cb:List Value}(hg:m.get b= .cells true cb){new new':List Value}(hnr:B7 ι new new')
  (hone:new.all one=true) (hfit:L.base+cb.length+new.length<=L.total):
  ∃w',(storeCells ⟨L.block,L.base+cb.length,none⟩ new').run P w= .ok () w'/\Rel B0 G ι (m.set b (.cells true (cb++new))) w'/\Dd ι ι m (m.set b (.cells true (cb++new))) w w':=by
 have hlt:=hr.get_lt (b:=b) (by rw[hg];simp)
 have hb:=hr.blk b L hlt hL
 rw[hg]at hb
 obtain⟨rc,e,fr,h1,h2,h3,h4,h5⟩:=hb
 have hlen:=hnr.length
 have hone':new'.all one=true:=by rw[←hnr.all λ_ _ h=>h.one];exact hone
 have hrun:=EB (P:=P) L.block e fr new' (L.base+cb.length) 0 rc w h1 (by omega) (λj g1 g2=>(h5 rfl).2 j (by omega)) hone'
 refine⟨_,hrun,Rel.set hr hL hlt (by rw[hg];rfl) ?_ (by rw[hg];simp[BI.live]) (by rw[hg];simp[BI.own])⟩
 refine⟨_,e,fr,by rw[Cy _ _ _ _ (Fe h1)];simp;rfl,?_,?_,λi v hv=>?_,h5⟩
 ·rw[List.size_toArray,Ey _ _ _ (by simp;omega)];simpa using h2
 ·simp only[List.length_append];omega
 ·simp only[List.getElem?_toArray,Nat.add_zero];rw[EF _ _ _ _ (by simp;omega)];rw[List.getElem?_append]at hv;split at hv
  ·rename_i hi;obtain⟨v',hv',hrv⟩:=h4 i v hv;refine⟨v',?_,hrv⟩;rw[if_neg (by omega)];simpa using hv'
  ·rename_i hi;obtain⟨v',hv',hrv⟩:=hnr.get hv;refine⟨v',?_,hrv⟩;have hi':i - cb.length<new'.length:=(List.getElem?_eq_some_iff.1 hv').1;rw[if_pos (by omega),←hv'];congr 1;omega
theorem Wn(hr:Rel B0 G ι m w)(ht:BV ι n t a){o:Oper}{x y:Operand}{tS tX e:TypeId}{dX:TypeDesc}(ho:o.op= .call ⟨.builtin .append,#[x,y],#[tS,tX]⟩)(hu:P.underlying tS=some (.slice e))(huX:P.underlying tX=some dX)
  (hX:∀k,dX≠ .int k) {size:Nat} (hs:Bh P e=some size) {b k c' kx:Nat} {L:Loc} {vx:Value} {cb new:List Value} (h1:ev G t x=some (.slice (some ⟨b,0,none⟩) k c')) (h2:ev G t y=some vx) (hl:lenOf vx=some kx) (hroom:k+kx<=c')
  (hf:CG m size kx vx=some new) (hL:ι b=some L) (hg:m.get b= .cells true cb) (hcb:cb.length=k*size) (hnl:new.length=kx*size) (hone:new.all one=true) (htot:L.base+c'*size<=L.total)
  {next:Act->World->Prop} {Q:Exit->Act->World->Prop} (hnext:∀v' w',AV ι (.slice (some ⟨b,0,none⟩) (k+kx) c') v'->Rel B0 G ι (m.set b (.cells true (cb++new))) w'->Dd ι ι m (m.set b (.cells true (cb++new))) w w'->next (a.put o.dst v') w'):o.wp P a w next Q:=by
 unfold Oper.wp
 have r1:=BR hr ht h1
 have r2:=BR hr ht h2
 generalize hx:a.eval x=s' at r1
 generalize hy:a.eval y=y' at r2
 have hlen':=Lp (P:=P) (w:=w) r2 hl
 obtain⟨new',hf',hnr⟩:=Ga (P:=P) hr r2 hf hl (Nat.le_refl _)
 cases r1 with
 |slc _ _ _ _ L' hL'=>
  rw[hL]at hL';cases hL';have hm:(k+kx)*size<=c'*size:=Nat.mul_le_mul_right _ hroom;rw[Nat.add_mul]at hm;obtain⟨w',g1,g2,g3⟩:=Wm (P:=P) hr hL hg hnr hone (by omega)
  have hrun:(Builtin.append_ #[tS,tX] o.type #[.slice (some ⟨L.block,L.base+0,none⟩) k c',y']).run P w= .ok (.slice (some ⟨L.block,L.base+0,none⟩) (k+kx) c') w':=by
   rw[run_append_room hu huX hX hs hlen' hroom hf'];simp only[Addr.add_none,Nat.add_zero];rw[←hcb,g1];rfl
  simp only[execOp,ho,resolve,Sem.run_bind,Sem.run_pure,Result.andThen_ok,invoke,builtin,List.map_toArray,List.map_cons,List.map_nil,hx,hy,hrun];exact hnext _ w' (.slc _ _ _ _ _ hL) g2 g3
theorem BV.re(ht:BV ι n t a){p:Nat}(hp:p<n){v:Value}(hv:AV ι v (a.tmps.getD p undef)):BV ι n (t.set p v) a:=by
 refine⟨ht.1,λd=>?_⟩
 by_cases hd:d=p
 ·subst hd;rw[AE.at_set_same];exact hv
 ·rw[AE.at_set_ne _ hd];exact ht.2 d
theorem LS(hK:Plain P K){cf:CD}(hcf:CT P B0 G cf){ops:Array Oper}{Q:Exit->Act->World->Prop}(k:Nat):∀(l:List Oper) (i:Nat),(∀j,j<l.length->l[j]?=ops[i+j]?)->∀(ι:Ren) (t:AE) (m:Mem) (w:World) (a:Act) (t':AE) (m':Mem),
  FF P K G cf n ops.toList l t m=some (t',m')->Rel B0 G ι m w->BV ι n t a->Dy ι m.size m'.size->
  (∀a' w',DZ B0 G n ι m w a t' m' a' w'->wpOps P ops Q (List.range' (i+l.length) k) a' w')->wpOps P ops Q (List.range' i (l.length+k)) a w
 | [],i,hl,ι,t,m,w,a,t',m',h,hr,ht,hf,hQ=>by
  simp[FF]at h;obtain⟨rfl,rfl⟩:=h;rw[List.length_nil,Nat.zero_add];have:=hQ a w ⟨ι,ht,hr,Dd.refl _ _ _,rfl⟩;rw[List.length_nil,Nat.add_zero]at this;exact this
 |o::l,i,hl,ι,t,m,w,a,t',m',h,hr,ht,hf,hQ=>by
  simp only[FF]at h;split at h<;>try (simp at h;done)
  rename_i hd;have ho:ops[i]?=some o:=by have:=hl 0 (by simp);simpa using this.symm
  have hl':∀j,j<l.length->l[j]?=ops[i+1+j]?:=λj hj=>by have:=hl (j+1) (by simpa using hj);simp at this;rw[this];congr 1;omega
  have hQ':∀a' w',DZ B0 G n ι m w a t' m' a' w'->wpOps P ops Q (List.range' (i+1+l.length) k) a' w':=λa' w' ha=>by
   have:=hQ a' w' ha;rw[List.length_cons]at this;rw[show i+1+l.length=i+(l.length+1)by omega];exact this
  rw[List.length_cons,show l.length+1+k=(l.length+k)+1 by omega,List.range'_succ];simp only[wpOps,ho];rw[KJ ht]at h;split at h
  ·rename_i hw;rw[if_pos hw];split at h<;>try (simp at h;done)
   rename_i v m₁ hv;have s1:=Lu hcf.size hv;have s2:=Gc hcf.size _ _ _ _ _ h;refine .inl (gD hK hcf hr ht hv (hf.sub (Nat.le_refl _) s2) λι' v' w' g1 g2 g3=>?_);refine LS hK hcf k l (i+1) hl' ι' _ m₁ w' _ t' m' h g2 ((ht.mono g3.ext).putD hd g1) ((hf.sub s1 (Nat.le_refl _)).stp g3 (Nat.le_refl _)) λa' w'' ha=>hQ' a' w'' ?_;exact DZ.trans g3 (put_defers _ _ _) ha
  ·rename_i hw;rw[if_neg hw];refine LS hK hcf k l (i+1) hl' ι _ m w _ t' m' h hr (ht.putD hd (AV.undef _)) hf λa' w'' ha=>hQ' a' w'' ?_;exact DZ.trans (Dd.refl _ _ _) (put_defers _ _ _) ha
def nest:List Code->Code->Code
 | [],r=>r
 |a::l,r=> .seq a (nest l r)
theorem Ui(hK:Plain P K)(Br:P.follows .mixedOrders=true){cf:CD}(hcf:CT P B0 G cf)(hg:Bc cf){k:Nat}{R:Code}{Q:Exit->Act->World->Prop}:∀(l:List Code) (ι:Ren) (t:AE) (m:Mem) (w:World) (a:Act) (t':AE) (m':Mem),
  E7 P K G cf n k l t m=some (.normal,t',m')->Rel B0 G ι m w->BV ι n t a->Dy ι m.size m'.size->
  (∀a' w',DZ B0 G n ι m w a t' m' a' w'->R.wp P Q a' w')->(nest l R).wp P Q a w
 | [],ι,t,m,w,a,t',m',h,hr,ht,hf,hQ=>by
  simp only[E7,Option.some.injEq,Prod.mk.injEq,true_and]at h;obtain⟨rfl,rfl⟩:=h;exact hQ a w ⟨ι,ht,hr,Dd.refl _ _ _,rfl⟩
 |c::l,ι,t,m,w,a,t',m',h,hr,ht,hf,hQ=>by
  have hd:=Ha (n:=n) (G:=G) Br hK hcf hg;simp only[E7]at h;split at h
  ·rename_i t1 m1 h1;have s1:=Gu hcf.size hd.1 c _ _ _ _ _ h1
   have s2:m1.size<=m'.size:=by
    rw[←DA]at h;exact Gu hcf.size hd.1 _ _ _ _ _ _ h
   refine wp_seq (Gv hK hcf hd c _ _ _ _ _ h1 ι w a _ hr ht (hf.sub (Nat.le_refl _) s2) λa' w' ha=>?_);obtain⟨ι',g1,g2,g3,g4⟩:=ha;show(nest l R).wp P Q a' w';exact Ui hK Br hcf hg l ι' t1 m1 w' a' t' m' h g2 g1 ((hf.sub s1 (Nat.le_refl _)).stp g3 (Nat.le_refl _)) λa'' w'' ha=>hQ a'' w'' (DZ.trans g3 g4 ha)
  ·rename_i h1;rw[h]at h1;exact absurd rfl (h1 _ _)
end
end
end Go.DI
namespace Go.Proofs.YtgjflcgmieiafaaDoor
open Go Go.DI Go.DI.Kit Go.Proofs Go.Cmp
noncomputable section
structure RH where
 cv:Value:=undef
 ci:Value:=undef
 e:Int:=0
 n:Int:=0
 M4:Mem:=⟨λ_=> .none, .nil,0⟩
 M5:Mem:=⟨λ_=> .none, .nil,0⟩
 M7:Mem:=⟨λ_=> .none, .nil,0⟩
 a1:Value:=undef
 N1:Mem:=⟨λ_=> .none, .nil,0⟩
noncomputable def mW(d:RH):H.Hint where
 ix _:=false
 ld _ t _:=cond (Nat.beq t 30) (some d.cv) none
 cmp _ _:=none
 ap _:=none
 call f:=cond (Nat.beq f 4) (some (.tuple ⟨[.agg ⟨F9 d.ci⟩, .int .i64 d.e]⟩)) (cond (Nat.beq f 5) (some (.tuple ⟨[.int .i64 d.n, .int .i64 d.e]⟩)) (cond (Nat.beq f 6) (some undef) (cond (Nat.beq f 7) (some (.bool true)) none)))
 spec _ _ _ _:=False
 blk:=0
 eff f m:=cond (Nat.beq f 4) d.M4 (cond (Nat.beq f 5) d.M5 (cond (Nat.beq f 7) d.M7 m))
 specM f:=some λargs m v=>oK f args m=some (v,cond (Nat.beq f 4) d.M4 (cond (Nat.beq f 5) d.M5 (cond (Nat.beq f 7) d.M7 m)))
 st t _:=cond (Nat.beq t 32) (some (.cells true (F9 d.ci))) none
 apO x:=match x with| .tmp 119=>some (d.a1,d.N1)| .tmp 127=>some (d.a1,d.N1)|_=>none
theorem P7{d:RH}(f:FuncId)(v:Value)(args:List Value)(m:Mem)(hc:(mW d).call f=some v)(hs:(mW d).says f args m v):oK f args m=some (v,(mW d).eff f m):=hs
theorem LX{d:RH}(f:FuncId)(hc:(mW d).call f=none)(a:List Value)(m:Mem):oK f a m=none:=
 Sw (by rintro rfl;cases hc) (by rintro rfl;cases hc) (by rintro rfl;cases hc) (by rintro rfl;cases hc) a m
noncomputable def Kv:Array Oper:=match Zb cK 14 with| .region _ o _=>o|_=> #[]
noncomputable def nu:Code:=Gz ((items cK).drop 15)
noncomputable def pO(d:RH)(l:List Oper)(ds:List Nat)(x:Nat->Value)(M:Mem):=nO (mW d) Tryd.prog kp Kv.toList l 193 ds (AA 193 x) M
noncomputable def pC(d:RH)(k:Nat)(ds:List Nat)(x:Nat->Value)(M:Mem):=dw (mW d) Tryd.prog kp k nu 193 ds (AA 193 x) M
noncomputable def eQ:List Value:= [.slice none 0 0, .int .u32 0]
noncomputable def Z6(M:Mem):Mem:=M.push (.cells true eQ)
section
variable(k:Nat)(x:Nat->Value)(M M4 M5 M7 N1:Mem)(la aa ca cc:Option Addr)(ln lc an ac n2 c2 b:Nat)(a1:Value)
noncomputable def gN:List Nat:=Sz++ [120]
noncomputable def gO:List Nat:=Sz++ [117,119]
noncomputable def gR:List Nat:=Sz++ [22,23]
theorem rj:Pq (pO {a1:=a1,N1:=N1} (Kv.toList.take 4) gN (up x (Sz.zip (vM (.slice la ln lc) b))) M)
  ((vM (.slice la ln lc) b++ [a1],N1),[Wt 36 (Z6 M) (.slice la ln lc) (DS M.size 1) a1 N1]):=⟨by kernel_rfl,by kernel_rfl⟩
theorem ri:Pq (pO {} (Kv.toList.take 3) gO (up x (Sz.zip (vM (.slice la ln lc) b))) M)
  ((vM (.slice la ln lc) b++ [.slice la ln lc,DS M.size 1],Z6 M),[]):=⟨by kernel_rfl,by kernel_rfl⟩
theorem sH:Pq (pO {n:=518,e:=0,M5:=M5} (Kv.toList.drop 4) gR (up x (gN.zip (vM (.slice la ln lc) b++ [.slice aa an ac]))) M)
  ((vM (.slice la ln lc) b++ [I 518,I 0],M5),[oK 5 [.slice aa an ac] M=some (.tuple ⟨[I 518,I 0]⟩,M5)]):=⟨by kernel_rfl,by kernel_rfl⟩
theorem sI:Pq (pC {cv:= .slice ca 512 512,ci:= .slice cc n2 c2,e:=3,a1:= .slice aa an ac,N1:=N1,M4:=M4,M7:=M7} k [0] (up x (gR.zip (vM (.slice la ln lc) b++ [I 518,I 0]))) M)
  ((.ret,[.bool true],M7),[Wt 36 (Z6 M) (.slice la ln lc) (DS M.size 1) (.slice aa an ac) N1,oK 4 [.slice aa an ac] N1=some (eR (.slice cc n2 c2) 3,M4),VA 32 M4 zI (F9 (.slice cc n2 c2)),
   H.ldOk ((Z7 M4 (.slice cc n2 c2)).get b) 1 false 1 (.slice ca 512 512),oK 7 [] (Z7 M4 (.slice cc n2 c2))=some (.bool true,M7)]):=⟨by kernel_rfl,by kernel_rfl⟩
end
structure kP(N:Mem)(l a1:Value)(b:Nat):Prop where
 top:Pp N
 slc:∃la ln lc aa an ac,l= .slice la ln lc/\a1= .slice aa an ac
 rules:DH (Cg N) a1 (Cv++ [⟨[],0⟩])
 blt:b<N.size
 box:∃a,N.get b= .cells true (F9 (.slice a 512 512))
theorem RU:mP (Cv++ [⟨[],0⟩]):=HG (by decide+kernel)
theorem sJ:gR.all (λd=>Nat.blt d 193)=true:=by kernel_rfl
theorem eO{N:Mem}{l a1:Value}{b:Nat}(h:kP N l a1 b)(x:Nat->Value):∃x' N',FF Tryd.prog kp 1 NR 193 Kv.toList (Kv.toList.drop 4) (AA 193 (up x (gN.zip (vM l b++ [a1])))) N=some (AA 193 (up x' (gR.zip (vM l b++ [I 518,I 0]))),N')/\Ext N N':=by
 obtain⟨la,ln,lc,aa,an,ac,rfl,rfl⟩:=h.slc
 obtain⟨N',e1,y1⟩:=P6 h.top RU h.rules
 rw[Ws,Mx]at e1
 obtain⟨q1,q2⟩:=sH x N N' la aa ln lc an ac b
 obtain⟨x1,h1⟩:=Mm (ops:=Kv.toList) (l:=Kv.toList.drop 4) (ds:=gR) (x:=up x (gN.zip (vM (Value.slice la ln lc) b++ [Value.slice aa an ac]))) DV sJ P7 LX q1 q2 (AB e1 A8)
 exact⟨x1,N',h1,y1⟩
theorem ld1{M:Mem}{b:Nat}{u v:Value}(hg:M.get b= .cells true [u,v]):H.ldOk (M.get b) 1 false 1 v:=by
 rw[hg]
 rfl
theorem eP{N N2:Mem}{l a2:Value}{b:Nat}(hap:Wt 36 (Z6 N) l (DS N.size 1) a2 N2)(h:kP N2 l a2 b)(x:Nat->Value):∃x' M',AH Tryd.prog kp 1 NR (A6 Tryd.prog kp 1 NR 193) 193 600 nu (AA 193 (up x (gR.zip (vM l b++ [I 518,I 0])))) N=some (.ret,AA 193 (up x' [(0, .bool true)]),M'):=by
 obtain⟨la,ln,lc,aa,an,ac,rfl,rfl⟩:=h.slc
 obtain⟨cv,M4,e1,y1,hc⟩:=Jc h.top RU h.rules
 obtain⟨a4,rfl,_⟩:=hc
 rw[Z1]at e1
 obtain⟨ca,hbox⟩:=h.box
 have yI:=Jj M4 (.slice a4 (C6 (Cv++ [⟨[],0⟩])).length (C6 (Cv++ [⟨[],0⟩])).length)
 have y2:=y1.trans yI
 obtain⟨M7,e7,y7⟩:=ZQ (h.top.ext y2)
 obtain⟨q1,q2⟩:=sI 600 x N M4 M7 N2 la aa ca a4 ln lc an ac (C6 (Cv++ [⟨[],0⟩])).length (C6 (Cv++ [⟨[],0⟩])).length b
 obtain⟨x1,h1⟩:=C4 (x:=up x (gR.zip (vM (Value.slice la ln lc) b++ [I 518,I 0]))) DV rfl P7 LX q1 q2 (AB hap (AB e1 (AB nc (AB (ld1 ((y2.get b h.blt).trans hbox)) (AB e7 A8)))))
 exact⟨x1,M7,h1⟩
end
end Go.Proofs.YtgjflcgmieiafaaDoor
namespace Go.Proofs.YtgjflcgmieiafaaDoor
open Go Go.DI Go.DI.Kit Go.Proofs Go.Cmp Go.RowKit
noncomputable section
structure Kn(M:Mem)(b c:Nat)(vr:List (Value×A5))(z:List Value):Prop where
 top:Pp M
 lt:c<M.size
 pos:1<=c
 rules:vr.map (·.2)=Cv
 get:M.get c= .cells true (vr.flatMap B9++z)
 slc:∀x∈vr,∃a n m,x.1= .slice a n m
 tst:∀x∈vr,TB M c 1 M.size x.1 x.2.tests
 blt:b<M.size
 bne:b≠c
 box:∃a,M.get b= .cells true (F9 (.slice a 512 512))
section
variable{M M':Mem}{b c:Nat}{vr:List (Value×A5)}{z z':List Value}{l:Value}
theorem sG.kn(h:sG M l b c vr):Kn M b c vr []:=⟨h.top,h.lt,h.pos,h.rules,by rw[List.append_nil];exact h.get,h.slc,h.tst,h.blt,h.bne,h.box⟩
theorem Kn.ext(h:Kn M b c vr z)(x:Ext M M'):Kn M' b c vr z:=
 ⟨h.top.ext x,Nat.lt_of_lt_of_le h.lt x.size,h.pos,h.rules,(x.get c h.lt).trans h.get,h.slc,λy hy=>(h.tst y hy).keep (Nat.le_refl _) x.size (.inr rfl) λt _ ht _=>x.get t ht,Nat.lt_of_lt_of_le h.blt x.size,h.bne,by
  obtain⟨a,ha⟩:=h.box;exact⟨a,(x.get b h.blt).trans ha⟩⟩
theorem Kn.set(h:Kn M b c vr z):Kn (M.set c (.cells true (vr.flatMap B9++z'))) b c vr z':=by
 have hl:=h.lt
 have hp:=h.pos
 refine⟨⟨λj hj=>?_,h.top.pos,?_⟩,hl,hp,h.rules,Mem.get_set_same ..,h.slc,λy hy=>(h.tst y hy).keep (Nat.le_refl _) (Nat.le_refl _) (.inr rfl) λt _ ht hc=>Mem.get_set_ne _ hc _,h.blt,h.bne,?_⟩
 ·have hj:M.size<=j:=hj;rw[Mem.get_set_ne _ (by omega)];exact h.top.top j hj
 ·rw[Mem.get_set_ne _ (by omega)];exact h.top.gl0
 ·obtain⟨a,ha⟩:=h.box;exact⟨a,(Mem.get_set_ne _ h.bne _).trans ha⟩
theorem Kn.vn(h:Kn M b c vr z):vr.length=8:=by
 have:=congrArg List.length h.rules
 rw[List.length_map,ND]at this;exact this
theorem Kn.len(h:Kn M b c vr z):(vr.flatMap B9).length=8*2:=by rw[DL CJ,h.vn]
theorem Pa(ht:Pp M){c':Nat}(hc:c'<M.size)(hg:M.get c'= .cells true (vr.flatMap B9++eQ))(hr:vr.map (·.2)=Cv)(hT:∀x∈vr,EW (Cg M) x.1 x.2.tests)(sp:Option Nat)(cap:Nat):DH (Cg M) (.slice (some ⟨c',0,sp⟩) 9 cap) (Cv++ [⟨[],0⟩]):=by
 refine⟨_,cap,by rw[List.length_append,ND];rfl,λ_=>⟨c',sp,true,[],vr++ [(.slice none 0 0,⟨[],0⟩)],rfl,by rw[List.map_append,hr];rfl,?_,λx hx=>?_⟩⟩
 ·rw[CB hc,hg,List.flatMap_append,List.append_nil];rfl
 ·rcases List.mem_append.1 hx with hx|hx
  ·exact hT x hx
  ·obtain rfl:=List.mem_singleton.1 hx;exact⟨none,0,rfl,λh=>absurd rfl h⟩
theorem Kn.tsts(h:Kn M b c vr z):∀x∈vr,EW (Cg M) x.1 x.2.tests:=λx hx=>(h.tst x hx).tsts (Nat.le_refl _)
theorem My(M:Mem):CG (Z6 M) 2 1 (DS M.size 1)=some eQ:=E6 (rest:= []) (by rw[List.append_nil];exact Mem.get_push_same M _) rfl
theorem TH{P:Program}{t e:TypeId}{z by_:Nat}{m:Mem}{bk k n:Nat}{x:Value}{old new:List Value}{own:Bool}(hu:P.underlying t=some (.slice e))(hs:Bh P e=some z)(hz:z≠0)(hb:bytesOf P e=some by_)(hb0:0<by_)(h0:(D5 P e 1).isSome=true)
  (hg:m.get bk= .cells own old) (hol:old.length=k*z) (h2:old.all one=true)
  (hl:lenOf x=some n) (hn:0<n) (hbig:(k+n)*by_<=140737488355328/\k+n<=4611686018427387904) (hf:CG m z n x=some new) (hnl:new.length=n*z) (h1:new.all one=true):
  Bp P m t t (.slice (some ⟨bk,0,none⟩) k k) x=some (.slice (some ⟨m.size,0,some z⟩) (k+n) (k+n),m.push (.cells true (old++new))):=by
 have hf0:CG m z k (.slice (some ⟨bk,0,none⟩) k k)=some old:=E6 (rest:= []) (by rw[List.append_nil];exact hg) hol
 unfold Bp
 simp only[hu,hs,hb,hl,hf,hf0]
 rw[if_neg hz,if_neg (by omega),if_pos ⟨hbig.1,by omega,hb0,h0⟩,if_pos ⟨by rw[h1,h2];rfl,hol,hnl⟩]
theorem XB{P:Program}{t e:TypeId}{z by_:Nat}{m:Mem}{bk k n c':Nat}{x:Value}{old new:List Value}(hu:P.underlying t=some (.slice e))(hs:Bh P e=some z)(hz:z≠0)(hb:bytesOf P e=some by_)
  (hg:m.get bk= .cells true (old++new)) (hol:old.length=k*z) (hroom:k+n<=c')
  (hl:lenOf x=some n) (hn:0<n) (hf:CG m z n x=some new) (h1:new.all one=true):
  Bp P m t t (.slice (some ⟨bk,0,none⟩) k c') x=some (.slice (some ⟨bk,0,none⟩) (k+n) c',m.set bk (.cells true (old++new))):=by
 have hst:Ie none m bk (0+k*z) new=some (m.set bk (.cells true (old++new))):=by
  show Df m bk (0+k*z) new=_;unfold Df;rw[hg];simp only;rw[Nat.zero_add,if_pos (by rw[List.length_append];omega),h1]
  have:splice (old++new) (k*z) new=old++new:=by
   unfold splice;rw[←hol,List.take_left,List.drop_eq_nil_of_le (by rw[List.length_append];omega),List.append_nil]
  rw[this];rfl
 unfold Bp
 simp only[hu,hs,hb,hl,hf]
 rw[if_neg hz,if_pos hroom,if_neg (by omega),hst]
theorem P8(M:Mem):Ext M (Z6 M):=Ext.push M _
theorem TA:eQ.all one=true:=rfl
theorem gS(h:Kn M b c vr []):∃a1 N1,Wt 36 (Z6 M) (DS c 8) (DS M.size 1) a1 N1/\kP N1 (DS c 8) a1 b/\Kn N1 b c vr []:=by
 have hru:=h.ext (P8 M)
 have hg:=hru.get
 rw[List.append_nil]at hg
 have hap:=TH (P:=Tryd.prog) (t:=36) (n:=1) (x:=DS M.size 1) mQ mR (by decide) eS (by decide) kW hg h.len (K3 h.slc) rfl (by decide) (by constructor<;>omega) (My M) rfl TA
 have xN:Ext (Z6 M) ((Z6 M).push (.cells true (vr.flatMap B9++eQ))):=Ext.push _ _
 have kN:=hru.ext xN
 refine⟨_,_,hap,⟨kN.top,⟨_,_,_,_,_,_,rfl,rfl⟩,?_,kN.blt,kN.box⟩,kN⟩
 exact Pa kN.top (Nat.lt_succ_self _) (Mem.get_push_same ..) h.rules kN.tsts _ _
theorem nZ(h:Kn M b c vr eQ){c':Nat}(hc:8+1<=c'):∃a1 N1,Wt 36 (Z6 M) (.slice (some ⟨c,0,none⟩) 8 c') (DS M.size 1) a1 N1/\kP N1 (.slice (some ⟨c,0,none⟩) 8 c') a1 b:=by
 have hru:=h.ext (P8 M)
 have hap:=XB (P:=Tryd.prog) (t:=36) (n:=1) (x:=DS M.size 1) mQ mR (by decide) eS hru.get h.len hc rfl (by decide) (My M) TA
 have kN:=hru.set (z':=eQ)
 refine⟨_,_,hap,⟨kN.top,⟨_,_,_,_,_,_,rfl,rfl⟩,?_,kN.blt,kN.box⟩⟩
 exact Pa kN.top kN.lt kN.get h.rules kN.tsts _ _
theorem nY(h:Kn M b c vr eQ)(c':Nat):kP M (.slice (some ⟨c,0,none⟩) 8 c') (.slice (some ⟨c,0,none⟩) (8+1) c') b:=
 ⟨h.top,⟨_,_,_,_,_,_,rfl,rfl⟩,Pa h.top h.lt h.get h.rules h.tsts _ _,h.blt,h.box⟩
end
section
variable{P:Program}{K:TypeId->Bool}{G:Nat}{cf:FQ}{n k:Nat}
theorem Ku:∀(l:List Code) (t:AE) (m:Mem),E7 P K G cf n k (l.flatMap items) t m=E7 P K G cf n k l t m
 | [],t,m=>rfl
 |c::l,t,m=>by
  rw[List.flatMap_cons,Em];simp only[E7];rw[FI c];cases E7 P K G cf n k (items c) t m with
  |none=>rfl
  |some r=>
   obtain⟨e,t1,m1⟩:=r;cases e with
   |normal=>exact Ku l t1 m1
   |exit i=>rfl
   |ret=>rfl
end
noncomputable def r8:Code->Code| .seq a _=>a|_=> .skip
noncomputable def nT:Code->Code| .seq _ b=>b|_=> .skip
noncomputable def gL:Nat->Code->Code|0,c=>c|n+1,c=>gL n (nT c)
noncomputable def gM:Nat->Code->List Code|0,_=> []|n+1,c=>r8 c::gM n (nT c)
noncomputable def L1:List Code:=gM 13 cK
noncomputable def endS:Code:=gL 14 cK
theorem nU:cK=nest L1 (.seq (.region 22 Kv false) endS):=by kernel_rfl
theorem Z2:L1.flatMap items=(items cK).take 14:=by kernel_rfl
theorem Sy:items endS=(items cK).drop 15:=by kernel_rfl
theorem at3:Tryd.prog.funcs[3]?=some Tryd.f3:=by kernel_rfl
theorem bd3:Tryd.f3.body=some cK:=by kernel_rfl
theorem Z3:Kv.size=10:=by kernel_rfl
noncomputable def o3:Oper:=match Kv[3]? with|some o=>o|none=>⟨none, .move (.tmp 0),0, "",#[],none⟩
theorem nV:Kv[3]?=some o3:=by kernel_rfl
theorem nW:o3.op= .call ⟨.builtin .append,#[.tmp 117, .tmp 119],#[36,36]⟩:=by kernel_rfl
theorem Z4:o3.dst=some 120:=by kernel_rfl
theorem Z5:o3.guard=none:=by kernel_rfl
theorem kJ:(Kv.toList.take 4).length=4:=by kernel_rfl
theorem kK:(Kv.toList.take 3).length=3:=by kernel_rfl
theorem Q4:(Kv.toList.drop 4).length=6:=by kernel_rfl
theorem r9:gN.all (λd=>Nat.blt d 193)=true:=by kernel_rfl
theorem db:gO.all (λd=>Nat.blt d 193)=true:=by kernel_rfl
theorem Jh(x:Nat->Value)(kn:List (Nat×Value)){d:Nat}(hd:d<193):(AA 193 (up x kn)).at d=up x kn d:=by rw[FK,if_pos hd]
theorem gQ{x:Nat->Value}{l l':Value}{b:Nat}:∀p∈Sz.zip (vM l' b),((AA 193 (up x (Sz.zip (vM l b)))).set 17 l').at p.1=p.2:=by
 intro p hp
 have hp:p∈ [((0:Nat),Value.bool false),(4,I 3),(5,I 25),(6,I 0),(8,I 0),(9,U 9),(10, .bool true),(12,I 0),(13,U 0),(14, .bool true),(16,I 1),(17,l'),(20,bx b),(21,I 0)]:=hp
 simp only[List.mem_cons,List.not_mem_nil,or_false]at hp
 rcases hp with rfl|rfl|rfl|rfl|rfl|rfl|rfl|rfl|rfl|rfl|rfl|rfl|rfl|rfl
 case inr.inr.inr.inr.inr.inr.inr.inr.inr.inr.inr.inl=>exact AE.at_set_same _ _ _
 all_goals
  rw[AE.at_set_ne _ (by simp),Jh _ _ (by simp)];rfl
theorem nX{x:Nat->Value}{l u v:Value}{b:Nat}{a:Value}:∀p∈gN.zip (vM l b++ [a]),((AA 193 (up x (gO.zip (vM l b++ [u,v])))).set 120 a).at p.1=p.2:=by
 intro p hp
 have hp:p∈ [((0:Nat),Value.bool false),(4,I 3),(5,I 25),(6,I 0),(8,I 0),(9,U 9),(10, .bool true),(12,I 0),(13,U 0),(14, .bool true),(16,I 1),(17,l),(20,bx b),(21,I 0),(120,a)]:=hp
 simp only[List.mem_cons,List.not_mem_nil,or_false]at hp
 rcases hp with rfl|rfl|rfl|rfl|rfl|rfl|rfl|rfl|rfl|rfl|rfl|rfl|rfl|rfl|rfl
 case inr.inr.inr.inr.inr.inr.inr.inr.inr.inr.inr.inr.inr.inr=>exact AE.at_set_same _ _ _
 all_goals
  rw[AE.at_set_ne _ (by simp),Jh _ _ (by simp)];rfl
theorem kL{x:Nat->Value}{l u v:Value}{b:Nat}:ev 1 (AA 193 (up x (gO.zip (vM l b++ [u,v])))) (.tmp 117)=some u:=by
 show some ((AA 193 (up x (gO.zip (vM l b++ [u,v])))).at 117)=some u
 rw[Jh _ _ (by decide)];rfl
theorem kM{x:Nat->Value}{l u v:Value}{b:Nat}:ev 1 (AA 193 (up x (gO.zip (vM l b++ [u,v])))) (.tmp 119)=some v:=by
 show some ((AA 193 (up x (gO.zip (vM l b++ [u,v])))).at 119)=some v
 rw[Jh _ _ (by decide)];rfl
theorem rh(x:Nat->Value)(M:Mem):DM Tryd.prog (AA 193 (up x [(0, .bool true)])) M Tryd.f3.results.toList=some [.bool true]:=by kernel_rfl
theorem WN{W:World}{m:Mem}{ι:Ren}(hm:Pp m)(hr:Rel W.heap.size 1 ι m W)(hf:∀b,m.size<=b->ι b=none):Calls Tryd.prog 3 #[] W λe w'=>e= .returned (.bool true)/\Below W.heap.size W w':=by
 have hcf:CT Tryd.prog W.heap.size 1 NR:=Dg Br hK FZ (nR W.heap.size) Sv 20
 have hcg:Bc NR:=Cb Sv 20
 have hfr:∀{ι2:Ren} {N:Mem} {W2:World},Dd ι ι2 m N W W2->∀y,Dy ι2 N.size y:=λhs y b hb _=>by
  rw[hs.out b (.inr hb)];exact hf b (Nat.le_trans hs.msize hb)
 obtain⟨x1,M1,l,b,c,vr,h1,hMid⟩:=kO hm (CM [])
 have ht0:BV ι 193 (AA 193 (CM [])) {tmps:= #[]++Array.replicate (Tryd.f3.ntmps - 0) undef,defers:= []}:=IJ (args:= []) (args':= []) (nt:=193) .nil
 have h1':E7 Tryd.prog kp 1 NR 193 600 L1 (AA 193 (CM [])) m=some (.normal,AA 193 (up x1 (Sz.zip (vM l b))),M1):=by
  rw[←Ku,Z2,←DA];exact h1
 have kn:=hMid.kn
 refine calls_of_wp at3 bd3 ?_
 rw[nU]
 generalize hQ:bodyPost Tryd.prog Tryd.f3 (λe w'=>e= .returned (.bool true)/\Below W.heap.size W w')=Q
 have fin:∀{ι2:Ren} {a2:Act} {W2:World} {N:Mem} {l2 av:Value} {x:Nat->Value},kP N l2 av b->BV ι2 193 (AA 193 (up x (gN.zip (vM l2 b++ [av])))) a2->Rel W.heap.size 1 ι2 N W2->Dd ι ι2 m N W W2->a2.defers= []->
   (∀M5,Ext N M5->∃a2 N2,Wt 36 (Z6 M5) l2 (DS M5.size 1) a2 N2/\kP N2 l2 a2 b)->wpOps Tryd.prog Kv (Exit.then (endS.wp Tryd.prog Q) Q) (List.range' 4 6) a2 W2:=λ{ι2 a2 W2 N l2 av x} hA ht hr2 hs hd happ=>by
  obtain⟨x3,N3,h3,y3⟩:=eO hA x;obtain⟨av2,N4,happ2,hA2⟩:=happ N3 y3;obtain⟨x5,N5,h5⟩:=eP happ2 hA2 x3
  have:=Lv (Q:=Exit.then (endS.wp Tryd.prog Q) Q) hK hcf (ops:=Kv) (Kv.toList.drop 4) 4 (λj=>by rw[List.getElem?_drop,Array.getElem?_toList]) ι2 _ N W2 a2 _ N3 h3 hr2 ht (hfr hs _) λa3 W3 ha=>by
   obtain⟨ι3,ht3,hr3,hs3,hd3⟩:=ha;have hs3':=hs.trans hs3;show endS.wp Tryd.prog Q a3 W3
   have h5':AH Tryd.prog kp 1 NR (A6 Tryd.prog kp 1 NR 193) 193 600 endS (AA 193 (up x3 (gR.zip (vM l2 b++ [I 518,I 0])))) N3=some (.ret,AA 193 (up x5 [(0, .bool true)]),N5):=by
    rw[FI endS,Sy,←DA];exact h5
   refine Gv hK hcf (Ha Br hK hcf hcg) endS _ _ _ _ _ h5' ι3 W3 a3 Q hr3 ht3 (hfr hs3' _) λa4 W4 ha=>?_;obtain⟨ι4,ht4,hr4,hs4,hd4⟩:=ha;have hs4':=hs3'.trans hs4;obtain⟨v',q1,q2⟩:=Fo (P:=Tryd.prog) hr4 ht4 (rh x5 N5);rw[←hQ];refine⟨hd4.trans (hd3.trans hd),v',q1,?_,⟨hs4'.os,hs4'.tape,hs4'.output,hs4'.hsize,λB hB=>hs4'.below hr B hB⟩⟩;have q2:AV ι4 (.bool true) v':=q2;rw[q2.inv_bool]
  rw[Q4]at this;exact this
 refine Ui hK Br hcf hcg L1 ι _ m W _ _ M1 h1' hr ht0 (λb h _=>hf b h) λa1 W1 ha=>?_
 obtain⟨ι1,ht1,hr1,hs1,hd1⟩:=ha
 have hd1:a1.defers= []:=hd1
 refine wp_seq (wp_region ?_)
 rw[Z3,List.range_eq_range']
 have hv:=ht1.2 17
 rw[Jh _ _ (by decide),show up x1 (Sz.zip (vM l b)) 17=l from rfl,hMid.eq]at hv
 have hv:AV ι1 (.slice (some ⟨c,0,some 2⟩) 8 8) (a1.tmps.getD 17 undef):=hv
 generalize hu:a1.tmps.getD 17 undef=u at hv
 cases hv with
 |loose _ _ _ _ _ c' L hL hc htot=>
  rcases Nat.lt_or_ge 8 c' with h8|h8
  ·
   have hta:BV ι1 193 ((AA 193 (up x1 (Sz.zip (vM l b)))).set 17 (.slice (some ⟨c,0,none⟩) 8 c')) a1:=ht1.re (by decide) (by rw[hu];exact .slc _ _ _ _ _ hL);obtain⟨x2,hx2⟩:=hta.full _ gQ;obtain⟨q1,q2⟩:=ri x2 M1 (some ⟨c,0,none⟩) 8 c' b;obtain⟨x3,h3⟩:=Mm (ops:=Kv.toList) (l:=Kv.toList.take 3) (ds:=gO) (x:=up x2 (Sz.zip (vM (Value.slice (some ⟨c,0,none⟩) 8 c') b))) DV db P7 LX q1 q2 A8
   have:=LS (Q:=Exit.then (endS.wp Tryd.prog Q) Q) hK hcf (ops:=Kv) 7 (Kv.toList.take 3) 0 (λj hj=>by
    rw[kK]at hj;rw[List.getElem?_take_of_lt hj,Array.getElem?_toList,Nat.zero_add]) ι1 _ M1 W1 a1 _ _ h3 hr1 hx2 (hfr hs1 _) λa2 W2 ha=>by
    obtain⟨ι2,ht2,hr2,hs2,hd2⟩:=ha;rw[kK];show wpOps _ _ _ (3::List.range' 4 6) _ _;simp only[wpOps,nV];rw[if_pos (by unfold Region.wanted;rw[Z5])];have kr:=kn.ext (P8 M1);have hg:=kr.get;rw[List.append_nil]at hg;refine .inl (Wn hr2 ht2 nW mQ mQ (λk h=>by cases h) mR kL kM rfl (show 8+1<=c' by omega) (My M1) (hs2.ext _ _ hL) hg kn.len rfl TA (by omega) λv' w' hv' hr' hs'=>?_);have ht3:=BV.putD (n:=193) (dst:=o3.dst) ht2 (by rw[Z4];rfl) hv';rw[Z4]at ht3 ⊢;obtain⟨x4,hx4⟩:=ht3.full _ nX;have kN:=kr.set (z':=eQ);exact fin (nY kN c') hx4 hr' ((hs1.trans hs2).trans hs') (hd2.trans hd1) λM5 y5=>nZ (kN.ext y5) h8
   rw[kK]at this;exact this
  ·
   obtain rfl:c'=8:=by omega
   have hta:BV ι1 193 ((AA 193 (up x1 (Sz.zip (vM l b)))).set 17 (DS c 8)) a1:=ht1.re (by decide) (by rw[hu];exact .slc _ _ _ _ _ hL);obtain⟨x2,hx2⟩:=hta.full _ gQ;obtain⟨av,N1,hap,hA,kN⟩:=gS kn;obtain⟨q1,q2⟩:=rj x2 M1 N1 (some ⟨c,0,none⟩) 8 8 b av;obtain⟨x3,h3⟩:=Mm (ops:=Kv.toList) (l:=Kv.toList.take 4) (ds:=gN) (x:=up x2 (Sz.zip (vM (Value.slice (some ⟨c,0,none⟩) 8 8) b))) DV r9 P7 LX q1 q2 (AB hap A8)
   have:=LS (Q:=Exit.then (endS.wp Tryd.prog Q) Q) hK hcf (ops:=Kv) 6 (Kv.toList.take 4) 0 (λj hj=>by
    rw[kJ]at hj;rw[List.getElem?_take_of_lt hj,Array.getElem?_toList,Nat.zero_add]) ι1 _ M1 W1 a1 _ _ h3 hr1 hx2 (hfr hs1 _) λa2 W2 ha=>by
    obtain⟨ι2,ht2,hr2,hs2,hd2⟩:=ha;rw[kJ]
    exact fin hA ht2 hr2 (hs1.trans hs2) (hd2.trans hd1) λM5 y5=>by
     obtain⟨a5,N5,g1,g2,_⟩:=gS (kN.ext y5);exact⟨a5,N5,g1,g2⟩
   rw[kJ]at this;exact this
end
end Go.Proofs.YtgjflcgmieiafaaDoor
namespace Go.DI
open Go.RowKit Go.ChangeShapes Go.WideShapes
inductive Dt where
 |bo (b:Bool)
 |int (k:IntKind) (n:Int)
 |str (s:ByteArray)
 |nil
 |sl (l:List Dt) (cap:Nat)
 |ag (l:List Dt)
mutual
def Rv(m:Mem):Dt->List Value->Prop
 | .bo b,cs=>cs= [.bool b]
 | .int k n,cs=>cs= [.int k n]
 | .str s,cs=>cs= [.string s]
 | .nil,cs=>cs= [.slice none 0 0]
 | .sl l cap,cs=>∃b sp c,cs= [.slice (some ⟨b,0,sp⟩) l.length cap]/\b<m.size/\m.get b= .cells false c/\MA m l c/\(sp=none\/l= []/\cap=0)
 | .ag l,cs=>MA m l cs
def MA(m:Mem):List Dt->List Value->Prop
 | [],cs=>cs= []
 |d::l,cs=>∃c1 c2,cs=c1++c2/\Rv m d c1/\MA m l c2
end
def db{α β:Type}(R:α->β->Prop):List α->List β->Prop
 | [],[]=>True
 |a::l,b::l'=>R a b/\db R l l'
 |_,_=>False
section
variable{P:Program}
def Typed(P:Program):Nat->TypeId->Dt->Prop
 |0,_,_=>False
 |n+1,t,d=>match P.underlying t with
  |some .bool=>∃b,d= .bo b
  |some (.int k)=>∃x,d= .int k x/\(Lit.int k x).wf=true
  |some .string=>∃s,d= .str s/\s.size<=maxLen
  |some (.slice e)=>d= .nil\/∃l cap,d= .sl l cap/\l.length<=cap/\cap<=maxLen/\∀x∈l,Typed P n e x
  |some (.struct fs)=>∃l,d= .ag l/\db (λf x=>Typed P n f x) (fs.toList.map (·.type)) l
  |some (.array k e)=>∃l,d= .ag l/\l.length=k/\∀x∈l,Typed P n e x
  |_=>False
def YX(P:Program)(tot:Nat):Nat->List Field->Bool
 |off,[]=>Nat.beq off tot
 |off,f::l=>Nat.beq f.offset off && YX P tot (off+P.cellsOf f.type) l
def YY(P:Program):Nat->TypeId->Bool
 |0,_=>false
 |n+1,t=>match P.underlying t with
  |some .bool=>true
  |some (.int _)=>true
  |some .string=>true
  |some (.slice e)=>Nat.blt 0 (P.cellsOf e) && YY P n e
  |some (.struct fs)=>(fs.toList.all λf=>YY P n f.type) && YX P (P.cellsOf t) 0 fs.toList
  |some (.array k e)=>YY P n e && Nat.beq (P.cellsOf t) (k*P.cellsOf e)
  |_=>false
structure R0(G B0:Nat)(ι:Ren)(m:Mem)(w:World):Prop where
 rel:Rel B0 G ι m w
 fresh:∀b,m.size<=b->ι b=none
 lo:G<=m.size
structure YZ(ι ι':Ren)(m m':Mem):Prop where
 ren:ι.le ι'
 size:m.size<=m'.size
 get:∀b,b<m.size->m'.get b=m.get b
theorem YZ.refl(ι:Ren)(m:Mem):YZ ι ι m m:=⟨λ_ _ h=>h,Nat.le_refl _,λ_ _=>rfl⟩
theorem YZ.trans{ι ι₁ ι₂:Ren}{m m₁ m₂:Mem}(h:YZ ι ι₁ m m₁)(k:YZ ι₁ ι₂ m₁ m₂):YZ ι ι₂ m m₂:=
 ⟨λb L hb=>k.ren _ _ (h.ren _ _ hb),Nat.le_trans h.size k.size,λb hb=>(k.get b (Nat.lt_of_lt_of_le hb h.size)).trans (h.get b hb)⟩
mutual
theorem Rv.ext{ι ι':Ren}{m m':Mem}(e:YZ ι ι' m m'):∀(d:Dt) (cs:List Value),Rv m d cs->Rv m' d cs
 | .bo _,_,h=>by simpa only[Rv]using h
 | .int _ _,_,h=>by simpa only[Rv]using h
 | .str _,_,h=>by simpa only[Rv]using h
 | .nil,_,h=>by simpa only[Rv]using h
 | .sl l cap,cs,h=>by
  simp only[Rv]at h ⊢;obtain⟨b,sp,c,h1,h2,h3,h4,h5⟩:=h;exact⟨b,sp,c,h1,Nat.lt_of_lt_of_le h2 e.size,(e.get b h2).trans h3,MA.ext e l c h4,h5⟩
 | .ag l,cs,h=>by
  simp only[Rv]at h ⊢;exact MA.ext e l cs h
theorem MA.ext{ι ι':Ren}{m m':Mem}(e:YZ ι ι' m m'):∀(l:List Dt) (cs:List Value),MA m l cs->MA m' l cs
 | [],_,h=>by simpa only[MA]using h
 |d::l,cs,h=>by
  simp only[MA]at h ⊢;obtain⟨c1,c2,h1,h2,h3⟩:=h;exact⟨c1,c2,h1,Rv.ext e d c1 h2,MA.ext e l c2 h3⟩
end
theorem R0.push{G B0:Nat}{ι:Ren}{m:Mem}{w:World}(h:R0 G B0 ι m w)(c:List Value)(L:Loc)(hL:L.block<B0)(hb:Bd B0 ι (.cells false c) L w):
  R0 G B0 (λb=>if b=m.size then some L else ι b) (m.push (.cells false c)) w/\YZ ι (λb=>if b=m.size then some L else ι b) m (m.push (.cells false c)):=by
 have hn:=h.fresh m.size (Nat.le_refl _)
 have hle:ι.le (λb=>if b=m.size then some L else ι b):=by
  intro b L' hb;have:b≠m.size:=by intro e;rw[e,hn]at hb;cases hb
  simp[this,hb]
 have hr:=h.rel
 refine⟨⟨⟨λb L' hb' hL'=>?_,λb₁ b₂ L₁ L₂ h1 h2 h3 h4 l1 l2 g0 e=>?_,hr.floor,λg hg=>(by obtain⟨L',h1,h2⟩:=hr.glob g hg;have:=h.lo;exact⟨L',by simp[show g≠m.size by omega,h1],h2⟩),λb hb'=>?_⟩,λb hb'=>?_,by have:=h.lo;simp;omega⟩,⟨hle,by simp,λb hb'=>Mem.get_push_ne _ (by omega) _⟩⟩
 ·rw[Mem.get_push];by_cases e:b=m.size
  ·subst e;simp at hL';subst hL';simpa using hb.mono hle rfl
  ·simp only[e,if_false]at hL' ⊢;simp at hb';exact(hr.blk b L' (by omega) hL').mono hle rfl
 ·simp at h1 h2;by_cases e1:b₁=m.size
  ·simp[e1]at h3;subst h3;omega
  ·by_cases e2:b₂=m.size
   ·simp[e2]at h4;subst h4;omega
   ·simp[e1]at h3;simp[e2]at h4;rw[Mem.get_push_ne _ e1]at l1;rw[Mem.get_push_ne _ e2]at l2;exact hr.inj b₁ b₂ L₁ L₂ (by omega) (by omega) h3 h4 l1 l2 g0 e
 ·simp at hb';rw[Mem.get_push_ne _ (by omega)];exact hr.top b (by omega)
 ·simp at hb';have:b≠m.size:=by omega
  simp only[this,if_false];exact h.fresh b (by omega)
theorem R0.start1{w:World}{gl:List Value}{rc:Array Value}{e:TypeId}{fr:Nat×Nat}(h:w.heap[0]?=some (.cells rc e fr))(hl:gl.length<=rc.size)(hc:∀(i:Nat) (v:Value),gl[i]?=some v->rc[i]?=some v/\∀ι,AV ι v v):
  R0 1 w.heap.size (λb=>if b=0 then some ⟨0,0,rc.size⟩else none) (Kit.mG gl) w:=by
 refine⟨⟨λb L hb hL=>?_,λb₁ b₂ L₁ L₂ h1 h2 _ _ _ _ _ _=>?_,Nat.le_refl _,λg hg=>?_,Kit.mG_top gl⟩,λb hb=>?_,by rw[Kit.mG_size];exact Nat.le_refl _⟩
 ·rw[Kit.mG_size]at hb;obtain rfl:b=0:=by omega
  rw[Kit.mG_get];simp at hL;subst hL;refine⟨rc,e,fr,h,rfl,by simpa using hl,λi v hv=>?_,λho=>by cases ho⟩;obtain⟨q1,q2⟩:=hc i v hv;exact⟨v,by simpa using q1,q2 _⟩
 ·rw[Kit.mG_size]at h1 h2;omega
 ·obtain rfl:g=0:=by omega
  exact⟨⟨0,0,rc.size⟩,by simp,rfl,rfl⟩
 ·rw[Kit.mG_size]at hb;simp[show b≠0 by omega]
inductive PD{H:Type}:Dt->DataW H->Prop
 |bo (b:Bool):PD (.bo b) (.lit (.bool b))
 |int (k:IntKind) (n:Int):PD (.int k n) (.lit (.int k n))
 |str (s:ByteArray):PD (.str s) (.lit (.string s.data.toList))
 |nil:PD .nil .nil
 |sl {l:List Dt} {cap:Nat} {elems rest:List (DataW H)} (hl:l.length=elems.length) (h:∀(i:Nat) (x:Dt) (y:DataW H),l[i]?=some x->elems[i]?=some y->PD x y):PD (.sl l cap) (.slice elems rest)
 |ag {l:List Dt} {parts:List (DataW H)} (hl:l.length=parts.length) (h:∀(i:Nat) (x:Dt) (y:DataW H),l[i]?=some x->parts[i]?=some y->PD x y):PD (.ag l) (.agg parts)
section
variable{H:Type}{enc:TypeId×Value->H}{w:World}{G B0:Nat}
def gE(B0:Nat)(ps:List MemPlace):Prop:=∀p∈ps,p.block<B0
def Imp(G:Nat)(P:Program)(w:World)(B0 n:Nat)(t:TypeId)(cs:List Value×DataW H):Prop:=
 ∀(ι:Ren) (m:Mem),R0 G B0 ι m w->∃d ι' m' c',Typed P n t d/\PD d cs.2/\Rv m' d c'/\B7 ι' c' cs.1/\R0 G B0 ι' m' w/\YZ ι ι' m m'
def Cells(w:World)(a:Addr)(l:List Value):Prop:=∀i,i<l.length->w.cell? (a.add i)=l[i]?
theorem Addr.add_add(a:Addr)(i j:Nat):(a.add i).add j=a.add (i+j):=by
 unfold Addr.add
 by_cases hi:i=0
 ·subst hi;simp
 ·by_cases hj:j=0
  ·subst hj;simp[hi]
  ·simp[hi,hj,Nat.add_assoc]
theorem Cells.append{a:Addr}{l l':List Value}(h:Cells w a l)(k:Cells w (a.add l.length) l'):Cells w a (l++l'):=by
 intro i hi
 rcases Nat.lt_or_ge i l.length with h1|h1
 ·rw[List.getElem?_append_left h1];exact h i h1
 ·rw[List.getElem?_append_right h1,←k (i - l.length) (by simp at hi;omega),Addr.add_add,show l.length+(i - l.length)=i by omega]
theorem Gt{a:Addr}{v:Value}(h:w.cell? a=some v):a.spot=none/\∃rc e fr,w.heap[a.block]?=some (.cells rc e fr)/\rc[a.off]?=some v:=by
 unfold World.cell? at h
 split at h
 ·rename_i c e fr hc;split at h
  ·cases h
  ·rename_i hs;refine⟨by simpa using hs,c,e,fr,hc,h⟩
 ·cases h
def Arg(P:Program)(m:Mem)(t:TypeId)(d:Dt)(v:Value):Prop:=
 match H5 P t with
 |some true=>∃c,v= .agg ⟨c⟩/\Rv m d c
 |_=>Rv m d [v]
def rW(P:Program)(n:Nat)(m:Mem):List TypeId->List Dt->List Value->Prop
 | [],[],[]=>True
 |t::ts,d::ds,v::vs=>Typed P n t d/\Arg P m t d v/\rW P n m ts ds vs
 |_,_,_=>False
theorem Arg.ext{ι ι':Ren}{m m':Mem}(e:YZ ι ι' m m'){t:TypeId}{d:Dt}{v:Value}(h:Arg P m t d v):Arg P m' t d v:=by
 unfold Arg at h ⊢
 split
 ·rename_i ht;rw[ht]at h;obtain⟨c,h1,h2⟩:=h;exact⟨c,h1,Rv.ext e d c h2⟩
 ·rename_i ht;split at h
  ·rename_i ht';exact absurd ht' ht
  ·exact Rv.ext e d _ h
def pN(P:Program)(t:TypeId)(v:Value):Prop:=match H5 P t with|some true=>∃cs,v= .agg cs|_=>v.cells.toList= [v]
theorem IU(hl:laidOutB P=true):∀{ts:List TypeId} {vs:List Value} {ds:List (DataW H)} {ps:List MemPlace} {W':World},(ts.all λt=>P.readableRec t && decide (t<P.types.size))=true->
  DataW.TrodAll enc P w 0 (λ_=>true) true ts vs ds ps->Below w.heap.size w W'->gE w.heap.size ps->DataW.TrodAll enc P W' 0 (λb=>decide (b<w.heap.size)) true ts vs ds ps
 | [],vs,ds,ps,W',_,h,_,_=>by
  obtain⟨rfl,rfl,rfl⟩:=trodAll_nil h;rfl
 |t::ts,vs,ds,ps,W',hr,h,hb,hB=>by
  obtain⟨v,vs',d,ds',p,q,rfl,rfl,rfl,h1,h2⟩:=trodAll_cons h;simp only[List.all_cons,Bool.and_eq_true]at hr
  exact⟨p,q,Below.trod hl hr.1.1 (of_decide_eq_true hr.1.2) h1 hb (λx hx=>hB x (List.mem_append_left _ hx)),
   IU hl hr.2 h2 hb (λx hx=>hB x (List.mem_append_right _ hx)),rfl⟩
theorem QV:∀{ts:List TypeId} {vs:List Value} {ds:List (DataW H)} {ps:List MemPlace},DataW.TrodAll enc P w 0 (λ_=>true) true ts vs ds ps->gE w.heap.size ps
 | [],vs,ds,ps,h=>by
  obtain⟨rfl,rfl,rfl⟩:=trodAll_nil h;intro p hp;simp at hp
 |t::ts,vs,ds,ps,h=>by
  obtain⟨v,vs',d,ds',p,q,rfl,rfl,rfl,⟨m,hm⟩,h2⟩:=trodAll_cons h;intro x hx;rcases List.mem_append.1 hx with hx|hx
  ·exact DataW.trod_lt m _ _ _ hm x hx
  ·exact QV h2 x hx
end
end
end Go.DI
namespace Go.DI
open Go Go.RowKit Go.ChangeShapes Go.WideShapes
section
variable{H:Type}{enc:TypeId×Value->H}{P:Program}{w:World}{G:Nat}
end
end Go.DI
