/- CompileMeans answers true: the code of any table, run with any packet by any port, says what the table says. Conditions: those of the given row and its card (the variable insn.sizes is laid as its initialiser says). -/
import Derived.Test.YtgjflcgmieiafaaGreatDoorM06
import Derived.Shelf.Abstract
import Derived.Test.YtgjflcgmieiafaaGreatDoorM05
import Derived.Test.YtgjflcgmieiafaaGreatDoorM04
set_option linter.all false
set_option linter.unusedVariables false
set_option linter.unusedSimpArgs false
namespace Go.Proofs.YtgjflcgmieiafaaGreatDoor
open Go Go.DI Go.DI.Kit Go.Proofs Go.Cmp Go.RowKit
noncomputable section
abbrev Pl(l:List Bb):={p:Nat // p∈A5 l}
def Sl(l:List Bb)(x:Pl l):Array Value:= #[.int .i64 (x.1:Int)]
def vE(B0:Nat)(ι:Ren)(l:List Bb)(A B:World):Prop:=Rel B0 1 ι (Hz (AE l) l.length) A->Rel B0 1 ι (Hz (AE l) l.length) B
theorem kc{l:List Bb}(hS:D7 l){p:Nat}{x:Bb}(hp:p∈A5 l)(hx:l[p]?=some x):(RZ x=1/\Sr x 1)\/(RZ x=2/\Sr x 2):=by
 rcases hS.found p hp with⟨y,hy,h1⟩|⟨y,o,q,hq,hy,h1,_,_,_⟩|⟨n,h1,h2⟩
 ·rw[hx]at h1;cases h1;left;cases hy with
  |movI hd=>exact⟨rfl,(WV hd).pl⟩
  |andI hd=>exact⟨rfl,(WW hd).pl⟩
  |movR hd hs=>exact⟨rfl,(WX hd hs).pl⟩
  |andR hd hs=>exact⟨rfl,(WY hd hs).pl⟩
  |low=>exact⟨rfl,bz.pl⟩
  |exit=>exact⟨rfl,WZ.pl⟩
  |load hz hd hs=>
   rcases hz with rfl|rfl|rfl|rfl
   ·exact⟨rfl,(Sb hd hs).pl⟩
   ·exact⟨rfl,(Sc hd hs).pl⟩
   ·exact⟨rfl,(Sd hd hs).pl⟩
   ·exact⟨rfl,(Se hd hs).pl⟩
  |swap hz hz1=>
   rcases hz with rfl|rfl|rfl|rfl
   ·omega
   ·exact⟨rfl,Sf.pl⟩
   ·exact⟨rfl,Sg.pl⟩
   ·exact⟨rfl,Sh.pl⟩
 ·rw[hx]at h1;cases h1;left;cases hy with
  |jif ho hd=>
   rcases ho with rfl|rfl|rfl|rfl
   ·exact⟨rfl,(W0 hd).pl⟩
   ·exact⟨rfl,(Wa hd).pl⟩
   ·exact⟨rfl,(Si hd).pl⟩
   ·exact⟨rfl,(Wb hd).pl⟩
  |jifR ho=>
   rcases ho with rfl|rfl
   ·exact⟨rfl,PY.pl⟩
   ·exact⟨rfl,Sj.pl⟩
  |goto=>exact⟨rfl,Wc.pl⟩
 ·rw[hx]at h1;cases h1;exact .inr ⟨rfl,OF.2.1⟩
theorem ke(L:List Value)(n:Nat):∀b,((Hz L n).get b).own=false:=by
 intro b
 have e:(Hz L n).get b=if b<1 then(mG gl).get b else(match [BH.cells false L,BH.cells false [A6 1 n]][b - 1]? with|some x=>x|none=>(mG gl).get b):=Bf _ (mG gl) b
 have hG:∀b,((mG gl).get b).own=false:=λb=>by
  by_cases h:b=0
  ·subst h;rw[mG_get];rfl
  ·rw[mG_top gl b (by rw[mG_size];omega)];rfl
 rw[e]
 by_cases h:b<1
 ·rw[if_pos h];exact hG b
 ·rw[if_neg h];rcases hb:b - 1 with _|_|j
  ·rfl
  ·rfl
  ·exact hG b
theorem I5{B0:Nat}{ι:Ren}{L:List Value}{n:Nat}{x:List Value}{lt:Bool}{pl:Int}{c:Code}{d lp:Nat}{kn:List (Nat×Value)}{y:Nat->Value}{p:Int}{u:Value}{qs:List Prop}{W:World}{a:Act}{dd:Nat}
  (h:Rn (vC x lt pl c d (AB 20 (up y kn)) (Hz L n)) ((.normal,yV lp,Bc 2 0, .int .i64 p,u,Hz L n),qs)) (hq:∀q∈qs,q)
  (hr:Rel B0 1 ι (Hz L n) W) (ht:Bg ι 20 (AB 20 (up y kn)) a) {Q:Exit->Act->World->Prop}
  (hQ:∀a' W' t',Bg ι 20 t' a'->t'.at 0=yV lp->t'.at 1=Bc 2 0->t'.at 3= .int .i64 p->t'.at d=u->a'.defers=a.defers->Rel B0 1 ι (Hz L n) W'->W.grownBy W' none->Q .normal a' W'):c.wpIn Fence.wide dd Tryz.prog Q a W:=by
 obtain⟨e,t',m',a1,a2⟩:=H.codeO_H (H:=hI x lt pl) (o:=Qc) (P:=Tryz.prog) (K:=kp) (G:=1) (j:=20) (n:=20) (k:=20) (c:=c) (t:=AB 20 (up y kn)) (m:=Hz L n) (g:=λe t m=>(e,t.at 0,t.at 1,t.at 3,t.at d,m)) vA rD h.1 h.2 hq
 have e1:e=_:=congrArg (λx=>x.1) a2
 have e2:t'.at 0=_:=congrArg (λx=>x.2.1) a2
 have e3:t'.at 1=_:=congrArg (λx=>x.2.2.1) a2
 have e4:t'.at 3=_:=congrArg (λx=>x.2.2.2.1) a2
 have e5:t'.at d=_:=congrArg (λx=>x.2.2.2.2.1) a2
 have e6:m'=_:=congrArg (λx=>x.2.2.2.2.2) a2
 simp only at e1 e2 e3 e4 e5 e6
 rw[e1,e6]at a1
 refine wpIn_wide.2 (KJ hK (dI B0) (LN Bw hK (dI B0) kZ) c _ _ _ _ _ a1 ι W a Q hr ht (λb h1 h2=>absurd h2 (Nat.not_lt.2 h1)) λa' W' ha=>?_)
 obtain⟨ι',g1,g2,g3,g4⟩:=ha
 obtain rfl:=bM g3
 exact hQ a' W' t' g1 e2 e3 e4 e5 g4 g2 (bL (P:=Tryz.prog) g3 (ke L n))
def vF(n:Nat)(a:Act):Nat:=match a.tmps.getD 3 undef with| .int _ z=>n - z.toNat|_=>0
theorem dJ{n:Nat}{a:Act}{k:IntKind}{p:Nat}(h:a.tmps.getD 3 undef= .int k (p:Int)):vF n a=n - p:=by unfold vF;rw[h];simp
def kf:Oper:={dst:=some 8,op:= .move (.tmp 0),type:=185,pos:= "shape.go:25",after:= #[],guard:=none}
def vG:Oper:={dst:=some 9,op:= .move (.tmp 3),type:=3,pos:= "shape.go:25",after:= #[],guard:=none}
def rG:Oper:={dst:=some 10,op:= .call {callee:= .value (.tmp 8),args:= #[.tmp 9],argTypes:= #[3]},type:=4,pos:= "shape.go:25",after:= #[{on:=0,ground:= .data},{on:=1,ground:= .data}],guard:=none}
def rH:Oper:={dst:=some 11,op:= .unOp .not 4 (.tmp 10),type:=4,pos:= "shape.go:25",after:= #[{on:=2,ground:= .data}],guard:=none}
theorem vH:ka 2= #[kf,vG,rG,rH]:=by kernel_rfl
theorem Ss{l:List Bb}{k p:Nat}(hk:l.length<=p+k)(hp:p<l.length):∃k' x,k=k'+1/\l[p]?=some x/\Bp l k p=p::Bp l k' (p+RZ x):=by
 obtain⟨k',rfl⟩:∃k',k=k'+1:=⟨k - 1,by omega⟩
 obtain⟨x,hx⟩:∃x,l[p]?=some x:=⟨_,List.getElem?_eq_getElem hp⟩
 exact⟨k',x,rfl,hx,by simp only[Bp,hx]⟩
theorem Ud{l:List Bb}{k p:Nat}(hp:l.length<=p):Bp l k p= []:=by
 cases k with
 |zero=>rfl
 |succ k=>simp only[Bp,List.getElem?_eq_none hp]
def vI{B0:Nat}{ι:Ren}{l:List Bb}(lp:Nat)(J:List (Pl l)->World->Prop)(a:Act)(W:World):Prop:=
 ∃(pre:List (Pl l)) (p k:Nat) (y:Nat->Value),pre.map Subtype.val++Bp l k p=A5 l/\l.length<=p+k/\p<=l.length+2/\J pre W/\Rel B0 1 ι (Hz (AE l) l.length) W/\Bg ι 20 (AB 20 (up y (fL lp (p:Int)))) a/\a.defers= []
theorem Jp{B0:Nat}{ι:Ren}{l:List Bb}{w:World}{nn:Nat}(hr:Rel B0 1 ι (Hz (AE l) l.length) w){Lb:Go.DI.Loc}(hb:ι 2=some Lb)(hS:D7 l):
  SeqStopsK Fence.wide nn Tryz.prog 93 #[.pointer (some ⟨Lb.block,Lb.base+0,none⟩)] (Sl l) (vE B0 ι l) (λxs=>xs.map Subtype.val=A5 l) (λ_=>True) (A5 l).length w:=by
 intro lp J Jx W hW hJ hJx hY h0
 have hrW:=PS hr hW
 have hm:=hS.most
 refine callsIn_of_wp jx jy trivial ?_ rfl
 have hst:Bg ι 20 (AB 20 (Bq [yV lp,Bc 2 0])) {tmps:=(#[.func (.yield lp) #[] #[]]++ #[.pointer (some ⟨Lb.block,Lb.base+0,none⟩)])++Array.replicate (Tryz.f93.ntmps - (#[.func (.yield lp) #[] #[]]++ #[.pointer (some ⟨Lb.block,Lb.base+0,none⟩)]:Array Value).size) undef,defers:= []}:=
  LV (ι:=ι) (args:= [yV lp,Bc 2 0]) (args':= [.func (.yield lp) #[] #[], .pointer (some ⟨Lb.block,Lb.base+0,none⟩)]) (nt:=20) (.cons (Nu ι lp) (.cons (.ptr 2 0 Lb hb) .nil))
 have e0:AB 20 (Bq [yV lp,Bc 2 0])=AB 20 (up (Bq [yV lp,Bc 2 0]) [(0,yV lp),(1,Bc 2 0)]):=by rw[up_self _ _ (by intro q hq;simp only[List.mem_cons,List.not_mem_nil,or_false]at hq;rcases hq with rfl|rfl<;>rfl)]
 rw[e0]at hst
 rw[rC]
 refine wpIn_seq (I5 (vD _ (AE l) l.length lp) AN hrW hst λa1 W1 t1 ht1 k0 k1 k3 _ hd1 hr1 hg1=>?_)
 simp only[Exit.then]
 refine wpIn_block (wpIn_loop (vI (B0:=B0) (ι:=ι) (l:=l) lp J) (λa _=>vF l.length a) ?_ ?_)
 ·obtain⟨y,hy⟩:=ht1.full (fL lp ((0:Nat):Int)) (by
   intro q hq;simp only[fL,List.mem_cons,List.not_mem_nil,or_false]at hq;rcases hq with rfl|rfl|rfl
   ·exact k0
   ·exact k1
   ·exact k3)
  exact⟨[],0,l.length,y,rfl,by omega,by omega,hJ [] W W1 none h0 hg1 (λr e=>by cases e),hr1,hy,hd1⟩
 ·rintro a W ⟨pre,p,k,y,hpre,hk,hp2,hJp,hrp,htp,hdp⟩;have h3:a.tmps.getD 3 undef= .int .i64 (p:Int):=htp.int (by rw[HU];rfl);refine wpIn_seq (wpIn_seq ?_);by_cases hlt:p<l.length
  ·obtain⟨k',x,rfl,hx,hgo⟩:=Ss hk hlt;refine I5 (nT y (AE l) l.length lp (p:Int) true) (AA (by simp[BY,BX,B1];omega) AN) hrp htp λa1 W1 t1 ht1 k0 k1 k3 k7 hd1 hr1 hg1=>?_;simp only[Exit.then];have h7:a1.tmps.getD 7 undef= .bool true:=ht1.bool k7;refine wpIn_cond_true (show a1.eval (.tmp 7)= .bool true from h7) (wpIn_skip ?_);simp only[Exit.then];have hJ1:J pre W1:=hJ pre W W1 none hJp hg1 (λr e=>by cases e);have hmem:p∈A5 l:=by rw[←hpre,hgo];simp
   have hN:pre.length< (A5 l).length:=by
    rw[←hpre,hgo];simp
   obtain⟨fn,tmps,assign,body,hy,hR⟩:=hY pre ⟨p,hmem⟩ W1 hJ1 hN;refine wpIn_block (wpIn_seq (wpIn_seq (wpIn_region ?_)));have w0:a1.eval (.tmp 0)=yV lp:=ht1.yield k0;have w3:a1.eval (.tmp 3)= .int .i64 (p:Int):=ht1.int k3;rw[vH];show wpOpsIn Fence.wide nn Tryz.prog #[kf,vG,rG,rH] _ [0,1,2,3] a1 W1;refine KW (o:=kf) rfl rfl (run_move (x:= .tmp 0) rfl) ?_
   have ht2:Bg ι 20 (t1.set 8 (yV lp)) (a1.put kf.dst (a1.eval (.tmp 0))):=by
    rw[w0];exact ht1.putD (n:=20) (dst:=some 8) rfl (Nu ι lp)
   have w3':(a1.put kf.dst (a1.eval (.tmp 0))).eval (.tmp 3)= .int .i64 (p:Int):=ht2.int (by rw[AF.at_set];exact k3);refine KW (o:=vG) rfl rfl (run_move (x:= .tmp 3) rfl) ?_
   have ht3:Bg ι 20 ((t1.set 8 (yV lp)).set 9 (.int .i64 (p:Int))) ((a1.put kf.dst (a1.eval (.tmp 0))).put vG.dst ((a1.put kf.dst (a1.eval (.tmp 0))).eval (.tmp 3))):=by
    rw[w3'];exact ht2.putD (n:=20) (dst:=some 9) rfl (.int _ _)
   obtain⟨a3,ha3⟩:∃a3,(a1.put kf.dst (a1.eval (.tmp 0))).put vG.dst ((a1.put kf.dst (a1.eval (.tmp 0))).eval (.tmp 3))=a3:=⟨_,rfl⟩;have hd3:a3.defers= []:=by rw[←ha3];exact(put_defers _ _ _).trans ((put_defers _ _ _).trans (hd1.trans hdp))
   rw[ha3]at ht3 ⊢;have w8:a3.eval (.tmp 8)=yV lp:=ht3.yield (by rw[AF.at_set_ne _ (by decide),AF.at_set_same];rfl);have w9:a3.eval (.tmp 9)= .int .i64 (p:Int):=ht3.int (by rw[AF.at_set_same])
   have hargs:(#[Operand.tmp 9].map a3.eval)=Sl l ⟨p,hmem⟩:=by
    rw[show(#[Operand.tmp 9]).map a3.eval= #[a3.eval (.tmp 9)]from by simp,w9];rfl
   refine UU (o:=rG) rfl rfl ((SV (f:= .tmp 8) (args:= #[.tmp 9]) (tys:= #[3]) (l:=lp) rfl w8).trans (by rw[hargs];exact hy)) (hR.mono ?_)
   have ht4:∀b,Bg ι 20 ((((t1.set 8 (yV lp)).set 9 (.int .i64 (p:Int))).set 10 (.bool b)).set 11 (.bool (!b))) ((a3.put rG.dst (.bool b)).put rH.dst (.bool (!b))):=λb=>
    (ht3.putD (n:=20) (dst:=some 10) rfl (.bool b)).putD (n:=20) (dst:=some 11) rfl (.bool (!b))
   have z4:∀(b:Bool) (d:Nat),d≠8->d≠9->d≠10->d≠11->AF.at ((((t1.set 8 (yV lp)).set 9 (.int .i64 (p:Int))).set 10 (.bool b)).set 11 (.bool (!b))) d=t1.at d:=λb d n8 n9 zc n11=>by
    rw[AF.at_set_ne _ n11,AF.at_set_ne _ zc,AF.at_set_ne _ n9,AF.at_set_ne _ n8]
   have w10:∀b,(a3.put rG.dst (.bool b)).eval (.tmp 10)= .bool b:=λb=>
    Bg.bool (ht3.putD (n:=20) (dst:=some 10) rfl (.bool b)) (by show(AF.set _ 10 _).at 10=_;rw[AF.at_set_same])
   have w11:∀b,((a3.put rG.dst (.bool b)).put rH.dst (.bool (!b))).eval (.tmp 11)= .bool (!b):=λb=>(ht4 b).bool (by rw[AF.at_set_same]);have hd4:∀b,((a3.put rG.dst (.bool b)).put rH.dst (.bool (!b))).defers= []:=λb=>(put_defers _ _ _).trans ((put_defers _ _ _).trans hd3);rintro e W2 (⟨rfl,hJ2,hK2⟩|⟨rfl,hx2⟩)
   ·refine⟨_,rfl,KW (o:=rH) rfl rfl (WA (x:= .tmp 10) (ty:=4) (b:=true) rfl (w10 true)) ?_⟩;simp only[wpOpsIn,Exit.then,Exit.inBlock];refine wpIn_cond_false (w11 true) (wpIn_skip ?_);simp only[Exit.then,Exit.inBlock];have hr2:Rel B0 1 ι (Hz (AE l) l.length) W2:=hK2 hr1
    obtain⟨y2,hy2⟩:=(ht4 true).full (fL lp (p:Int)) (by
     intro q hq;simp only[fL,List.mem_cons,List.not_mem_nil,or_false]at hq;rcases hq with rfl|rfl|rfl
     ·exact(z4 true 0 (by decide) (by decide) (by decide) (by decide)).trans k0
     ·exact(z4 true 1 (by decide) (by decide) (by decide) (by decide)).trans k1
     ·exact(z4 true 3 (by decide) (by decide) (by decide) (by decide)).trans k3)
    have next:∀(j:Nat),1<=j->j<=2->RZ x=j->∀(a5:Act) (W5:World) (t5:AF),Bg ι 20 t5 a5->t5.at 0=yV lp->t5.at 1=Bc 2 0->t5.at 3= .int .i64 ((p+j:Nat):Int)->a5.defers= []->Rel B0 1 ι (Hz (AE l) l.length) W5->W2.grownBy W5 none->
      vI (B0:=B0) (ι:=ι) (l:=l) lp J a5 W5/\vF l.length a5<vF l.length a:=by
     intro j hj1 hj2 hpl a5 W5 t5 ht5 z0 z1 z3 hd5 hr5 hg5
     obtain⟨y5,hy5⟩:=ht5.full (fL lp ((p+j:Nat):Int)) (by
      intro q hq;simp only[fL,List.mem_cons,List.not_mem_nil,or_false]at hq;rcases hq with rfl|rfl|rfl
      ·exact z0
      ·exact z1
      ·exact z3)
     refine⟨⟨pre++ [⟨p,hmem⟩],p+j,k',y5,?_,by omega,by omega,hJ _ W2 W5 none hJ2 hg5 (λr e=>by cases e),hr5,hy5,hd5⟩,?_⟩
     ·refine Eq.trans ?_ hpre;rw[hgo,List.map_append,List.append_assoc,←hpl];rfl
     ·rw[dJ (ht5.int z3),dJ h3];omega
    have hM:(Hz (AE l) l.length).top:=DY _;have hM0:(Hz (AE l) l.length).get 0= .cells false gl:=by kernel_rfl
    rcases kc hS hmem hx with⟨hpl,hrun⟩|⟨hpl,hrun⟩
    ·refine I5 (rE y2 (AE l) (AV x) l.length lp (p:Int)) (AA (Cf hx) (AA (Cg hx) (AA (dH hM hM0 (by show 1<=3;decide) hrun) AN))) hr2 hy2 λa5 W5 t5 ht5 z0 z1 z3 _ hd5 hr5 hg5=>?_;exact next 1 (by decide) (by decide) hpl a5 W5 t5 ht5 z0 z1 (by rw[z3,U4 (by omega)]) (hd5.trans (hd4 true)) hr5 hg5
    ·refine I5 (rF y2 (AE l) (AV x) l.length lp (p:Int)) (AA (Cf hx) (AA (Cg hx) (AA (dH hM hM0 (by show 1<=3;decide) hrun) AN))) hr2 hy2 λa5 W5 t5 ht5 z0 z1 z3 _ hd5 hr5 hg5=>?_;refine next 2 (by decide) (by decide) hpl a5 W5 t5 ht5 z0 z1 ?_ (hd5.trans (hd4 true)) hr5 hg5;rw[z3,show Int.add (p:Int) 2=((p+2:Nat):Int)from rfl,wrap_i64 ⟨by omega,by omega⟩]
   ·refine⟨_,rfl,KW (o:=rH) rfl rfl (WA (x:= .tmp 10) (ty:=4) (b:=false) rfl (w10 false)) ?_⟩;simp only[wpOpsIn,Exit.then,Exit.inBlock];refine wpIn_cond_true (w11 false) (wpIn_ret ?_);simp only[Exit.then,Exit.inBlock];exact⟨hd4 false,_,results_none rfl _ _ _,⟨_,rfl⟩, .inr ⟨_,trivial,hx2⟩⟩
  ·refine I5 (nT y (AE l) l.length lp (p:Int) false) (AA (by simp[BY,BX,B1];omega) AN) hrp htp λa1 W1 t1 ht1 k0 k1 k3 k7 hd1 hr1 hg1=>?_;simp only[Exit.then];have h7:a1.tmps.getD 7 undef= .bool false:=ht1.bool k7;refine wpIn_cond_false (show a1.eval (.tmp 7)= .bool false from h7) (wpIn_exit ?_);simp only[Exit.then,Exit.inBlock];have hJ1:J pre W1:=hJ pre W W1 none hJp hg1 (λr e=>by cases e);rw[Ud (by omega),List.append_nil]at hpre;exact⟨hd1.trans hdp,_,results_none rfl _ _ _,⟨_,rfl⟩, .inl ⟨pre,hpre,hJ1⟩⟩
def MD(bx i:Nat):Nat:=if i=2 then bx else i
def i93(ι:Ren)(bx:Nat):Ren:=ι.sub (MD bx) λi=>Nat.blt i 3
theorem Jo(ι:Ren)(bx b:Nat)(h:b<3):i93 ι bx b=ι (MD bx b):=by
 show(if Nat.blt b 3=true then _ else none)=_
 rw[if_pos (by simp[Nat.blt_eq];omega)]
theorem eu{B0:Nat}{ι:Ren}{own:Bool}{c:List Value}{L:Go.DI.Loc}{W:World}(h:Bi B0 ι (.cells own c) L W):Bi B0 ι (.cells false c) L W:=by
 obtain⟨rc,e,fr,h1,h2,h3,h4,h5⟩:=h
 exact⟨rc,e,fr,h1,h2,h3,h4,λh=>by cases h⟩
theorem cE{B0:Nat}{w0 W:World}{ι:Ren}{m:Mem}{bx:Nat}{o1 o2:Bool}{l:List Bb}(hs:Go.DI.St B0 w0 ι m W)(hz:1<m.size)(hbx:bx<m.size)(hb2:2<=bx)(g0:m.get 0= .cells false gl)(g1:m.get 1= .cells o1 (AE l))(gx:m.get bx= .cells o2 [A6 1 l.length]):
  Rel B0 1 (i93 ι bx) (Hz (AE l) l.length) W:=by
 have key:∀b,b<3->MD bx b<m.size/\(m.get (MD bx b)).live:=λb hb=>by
  have:b=0\/b=1\/b=2:=by omega
  rcases this with rfl|rfl|rfl
  ·refine⟨by show 0<_;omega,?_⟩;show(m.get 0).live;rw[g0];trivial
  ·refine⟨hz,?_⟩;show(m.get 1).live;rw[g1];trivial
  ·refine⟨hbx,?_⟩;show(m.get bx).live;rw[gx];trivial
 refine⟨λb L hb hL=>?_,λb₁ b₂ L₁ L₂ b1 b2 e1 e2 l1 l2 g0' e=>?_,hs.rel.floor,λg hg=>?_,DY _⟩
 ·have hb:b<3:=hb;rw[Jo ι bx b hb]at hL;have hr:=hs.rel.blk _ L (key b hb).1 hL;have:b=0\/b=1\/b=2:=by omega
  rcases this with rfl|rfl|rfl
  ·have hr:Bi B0 ι (m.get 0) L W:=hr;rw[g0]at hr;rw[show(Hz (AE l) l.length).get 0= .cells false gl by kernel_rfl];exact(FH (ρ:=MD bx) (k:=λi=>Nat.blt i 3) CO).rel B0 ι L W hr
  ·have hr:Bi B0 ι (m.get 1) L W:=hr;rw[g1]at hr;have h2:=bsim_ren (ρ:=MD bx) (nb:=3) (b:= .cells false (AE l)) (λv hv=>Ev (List.all_eq_true.1 (BT l) v hv)) (λv hv=>Di (List.all_eq_true.1 (BT l) v hv));rw[show(Hz (AE l) l.length).get 1= .cells false (AE l)by kernel_rfl];refine h2.rel B0 ι L W ?_;show Bi B0 ι (.cells false ((AE l).map _)) L W;rw[CW (BT l)];exact eu hr
  ·have hr:Bi B0 ι (m.get bx) L W:=hr;rw[gx]at hr;have h2:=bsim_ren (ρ:=MD bx) (nb:=3) (b:= .cells false [A6 1 l.length]) (λv hv=>by obtain rfl:=List.mem_singleton.1 hv;rfl) (λv hv=>by obtain rfl:=List.mem_singleton.1 hv;rfl);rw[show(Hz (AE l) l.length).get 2= .cells false [A6 1 l.length]by kernel_rfl];refine h2.rel B0 ι L W ?_;exact eu hr
 ·have b1:b₁<3:=b1;have b2:b₂<3:=b2;rw[Jo ι bx _ b1]at e1;rw[Jo ι bx _ b2]at e2;have:=hs.rel.inj _ _ _ _ (key b₁ b1).1 (key b₂ b2).1 e1 e2 (key b₁ b1).2 (key b₂ b2).2 g0' e;unfold MD at this;split at this<;>split at this<;>omega
 ·obtain rfl:g=0:=by omega
  obtain⟨L,p1,p2⟩:=hs.rel.glob 0 (by decide);exact⟨L,by rw[Jo ι bx 0 (by decide)];exact p1,p2⟩
theorem cF{B0:Nat}{ι:Ren}{l:List Bb}{A B C:World}(h:vE B0 ι l A B)(k:vE B0 ι l B C):vE B0 ι l A C:=λg=>k (h g)
theorem Yt(l:List Bb):∀b,((Hz (AE l) l.length).get b).live->∃o c,(Hz (AE l) l.length).get b= .cells o c:=by
 intro b hb
 have e:(Hz (AE l) l.length).get b=if b<1 then(mG gl).get b else(match [BH.cells false (AE l),BH.cells false [A6 1 l.length]][b - 1]? with|some x=>x|none=>(mG gl).get b):=Bf _ (mG gl) b
 rw[e]at hb ⊢
 by_cases h:b<1
 ·obtain rfl:b=0:=by omega
  rw[if_pos h,mG_get];exact⟨_,_,rfl⟩
 ·rw[if_neg h]at hb ⊢;rcases hj:b - 1 with _|_|j
  ·exact⟨_,_,rfl⟩
  ·exact⟨_,_,rfl⟩
  ·rw[hj]at hb;have hb:((mG gl).get b).live:=hb;rw[mG_top gl b (by rw[mG_size];omega)]at hb;exact hb.elim
theorem cG{B0:Nat}{ι:Ren}{l:List Bb}(W:World)(k:Nat)(o o':Obj)(hk:W.heap[k]?=some o)(hno:o.isCells=false):vE B0 ι l W (W.putObj k o'):=λhr=>by
 have hg:=grownBy_putObj' W k o'
 refine⟨λb L hb hL=>?_,hr.inj,Nat.le_trans hr.floor hg.size,hr.glob,hr.top⟩
 have hb0:=hr.blk b L hb hL
 refine hb0.monoL (λ_ _ h=>h) λhl=>?_
 obtain⟨o1,c,hgb⟩:=Yt l b hl
 refine hg.block _ (hb0.lt hl) λe=>?_
 have e:L.block=k:=Option.some.inj e
 rw[hgb]at hb0
 obtain⟨rc,e1,fr,h1,_⟩:=hb0
 rw[e,hk]at h1
 cases h1
 cases hno
theorem Qd{ι:Ren}{n:Nat}{t:AF}{a:Act}(ht:Bg ι n t a){d bx:Nat}(hd:t.at d= .func (.func 93) #[] #[Bc bx 0]):∃Lb,ι bx=some Lb/\a.tmps.getD d undef= .func (.func 93) #[] #[.pointer (some ⟨Lb.block,Lb.base+0,none⟩)]:=by
 have:=ht.2 d
 rw[hd]at this
 generalize a.tmps.getD d undef=u at this ⊢
 cases this with
 |func fn x x' y y' hx hy h1 h2=>
  have e1:x'= #[]:=Array.eq_empty_of_size_eq_zero hx.symm
  obtain⟨v,hv⟩:∃v,y'= #[v]:=by
   have:y'.size=1:=hy.symm;refine⟨y'[0],Array.ext (by simp[this]) λi hi hj=>?_⟩;obtain rfl:i=0:=by omega
   rfl
  subst e1 hv;have:=h2 0 (Bc bx 0) v rfl rfl;cases this with
  |ptr _ _ L hL=>exact⟨L,hL,rfl⟩
noncomputable def zX:Code:=AP Tryz.f69
theorem zY:Tryz.prog.funcs[69]?=some Tryz.f69:=by kernel_rfl
theorem zZ:Tryz.f69.body=some zX:=by kernel_rfl
noncomputable def ZK(i:Nat):Array Oper:=JF zX i
theorem s7:zX= .seq (.region 0 (ZK 0) false) (.seq (.region 1 (ZK 1) false) (.seq (.seq (.region 2 (ZK 2) false) (.block 0 (.rangeFunc (.tmp 9) #[10] (.region 3 (ZK 3) false) (.block 1 (.region 4 (ZK 4) false))))) (.seq (.region 5 (ZK 5) false) .ret))):=by kernel_rfl
noncomputable def hS(z y:List Value):H.Hint where
 ix t:=Nat.beq t 143
 ld _ _ _:=none
 cmp _ _:=none
 ap _:=none
 call f:=cond (Nat.beq f 48||(Nat.beq f 47||Nat.beq f 68)) (some undef) none
 spec _ _ _ _:=False
 blk:=0
 mks t:=cond (Nat.beq t 143) (some (.cells true z)) none
 st t b:=cond (Nat.beq t 4 && Nat.beq b 2) (some (.cells true y)) none
theorem TD{z y:List Value}(f:FuncId)(v:Value)(args:List Value)(m:Mem)(hc:(hS z y).call f=some v)(hs:(hS z y).says f args m v):Qc f args m=some (v,(hS z y).eff f m):=hs.elim
theorem OU{z y:List Value}(f:FuncId)(hc:(hS z y).call f=none)(a:List Value)(m:Mem):Qc f a m=none:=
 Mg (by rintro rfl;cases hc) (by rintro rfl;cases hc) (by rintro rfl;cases hc) a m
noncomputable def Yu(n:Nat):Value:= .slice (some ⟨2,0,none⟩) n n
noncomputable def td(o1:Bool)(L:List Value):Mem:=mS gl [.cells o1 L]
noncomputable def zy(o1:Bool)(L z:List Value)(n:Nat):Mem:=mS gl [.cells o1 L, .cells true z, .cells true [Yu n]]
noncomputable def Uz(o1:Bool)(L z:List Value)(n:Nat):Mem:=mS gl [.cells o1 L, .cells true z, .cells true [Yu n], .cells true [A6 1 n]]
noncomputable def AAD:Value:= .pointer (some ⟨4,0,none⟩)
noncomputable def Qb(bx:Nat):Value:= .func (.func 93) #[] #[Bc bx 0]
noncomputable def qMk(z:List Value)(n:Nat):Prop:=H.mkOk Tryz.prog 1 143 (.int .i64 (Int.ofNat n)) (.int .i64 (Int.ofNat n)) (.cells true z) n n
noncomputable def qSt(z y:List Value)(p:Int):Prop:=H.stOk Tryz.prog (.cells true z) 4 (Nat.add 0 (Nat.mul p.toNat 1)) (.bool true) (.cells true y)
theorem ni(x:Nat->Value)(o1:Bool)(L:List Value)(n:Nat):Rn (LW (hS [] []) Tryz.prog kp (.region 0 (ZK 0) false) 15 [0] (AB 15 (up x [(0,A6 1 n)])) (td o1 L)) ((.normal,[A6 1 n],td o1 L),[]):=⟨by kernel_rfl,by kernel_rfl⟩
theorem nj(x:Nat->Value)(o1:Bool)(L z:List Value)(n:Nat):Rn (LW (hS z []) Tryz.prog kp (.region 1 (ZK 1) false) 15 [0,3] (AB 15 (up x [(0,A6 1 n)])) (td o1 L)) ((.normal,[A6 1 n,Bc 3 0],zy o1 L z n),[qMk z n]):=⟨by kernel_rfl,by kernel_rfl⟩
theorem nk(x:Nat->Value)(o1:Bool)(L z:List Value)(n:Nat):Rn (LW (hS [] []) Tryz.prog kp (.region 2 (ZK 2) false) 15 [3,9] (AB 15 (up x [(0,A6 1 n),(3,Bc 3 0)])) (zy o1 L z n)) ((.normal,[Bc 3 0,Qb 4],Uz o1 L z n),[]):=⟨by kernel_rfl,by kernel_rfl⟩
theorem nm(x:Nat->Value)(o1:Bool)(L z y:List Value)(n:Nat)(p:Int):Rn (LW (hS [] y) Tryz.prog kp (.block 1 (.region 4 (ZK 4) false)) 15 [] (AB 15 (up x [(3,Bc 3 0),(4, .int .i64 p)])) (Uz o1 L z n)) ((.normal,[],Uz o1 L y n),[I3 p n,qSt z y p]):=⟨by kernel_rfl,by kernel_rfl⟩
theorem nq(x:Nat->Value)(o1:Bool)(L z:List Value)(n:Nat):Rn (LW (hS [] []) Tryz.prog kp (.region 5 (ZK 5) false) 15 [2] (AB 15 (up x [(3,Bc 3 0)])) (Uz o1 L z n)) ((.normal,[Yu n],Uz o1 L z n),[]):=⟨by kernel_rfl,by kernel_rfl⟩
def AW(s:List Nat)(n:Nat):List Value:=(List.range n).map λi=>Value.bool (decide (i∈s))
theorem Gb(s:List Nat)(n:Nat):(AW s n).length=n:=by simp[AW]
theorem Gc(s:List Nat)(n i:Nat):(AW s n)[i]?=if i<n then some (.bool (decide (i∈s)))else none:=by
 unfold AW
 rw[List.getElem?_map]
 by_cases h:i<n
 ·rw[List.getElem?_range h,if_pos h];rfl
 ·rw[List.getElem?_eq_none (by simp;omega),if_neg h];rfl
theorem TE(v:Value):∀n,Fs [v] n=List.replicate n v
 |0=>rfl
 |n+1=>by
  show v::Fs [v] n=_;rw[TE v n];rfl
theorem s9:Tryz.prog.underlying 143=some (.slice 4):=by kernel_rfl
theorem z5:bytesOf Tryz.prog 4=some 1:=by kernel_rfl
theorem z6(n:Nat):Dv Tryz.prog 4 n=some (Fs [.bool false] n):=by kernel_rfl
theorem sd{n:Nat}(h:n<=512):qMk (AW [] n) n:=λt lx cx h1 h2=>by
 have hb:AW [] n=Fs [.bool false] n:=by
  rw[TE];apply List.ext_getElem?;intro i;rw[Gc,List.getElem?_replicate];simp
 unfold Er
 simp only[s9,h1,h2,z5,Int.ofNat_eq_natCast]
 rw[if_pos ⟨by omega,by omega,by omega,by omega⟩,Int.toNat_natCast,z6,hb]
theorem se{s:List Nat}{n p:Nat}(h:p<n):qSt (AW s n) (AW (s++ [p]) n) (p:Int):=λm b hm=>by
 have hsz:Bv Tryz.prog 4=some 1:=by kernel_rfl
 have hoff:Nat.add 0 (Nat.mul (p:Int).toNat 1)=p:=by
  show 0+(p:Int).toNat*1=p;simp
 rw[hoff]
 have hc:(Value.bool true).cells.toList= [.bool true]:=rfl
 unfold By
 simp only[hsz,hc]
 rw[if_pos (by rfl)]
 unfold EX
 rw[hm]
 simp only
 rw[if_pos (by rw[Gb];simp;omega),if_pos (show [Value.bool true].all one=true from rfl)]
 have:splice (AW s n) p [.bool true]=AW (s++ [p]) n:=by
  apply List.ext_getElem?;intro i;rw[FG _ _ _ _ (by rw[Gb];simp;omega),Gc,Gc];by_cases hi:i=p
  ·subst hi;rw[if_pos (by simp),if_pos h];simp
  ·rw[if_neg (by simp;omega)];simp[hi]
 rw[this]
theorem DB(ss:List BH)(j:Nat):(mS gl ss).get j=if j<1 then(mG gl).get j else(match ss[j - 1]? with|some x=>x|none=>(mG gl).get j):=Bf ss (mG gl) j
theorem GX{ss:List BH}(h:∀s∈ss,∃o c,s= .cells o c)(b:Nat)(hb:((mS gl ss).get b).live):∃o c,(mS gl ss).get b= .cells o c:=by
 rw[DB]at hb ⊢
 by_cases h0:b<1
 ·obtain rfl:b=0:=by omega
  rw[if_pos h0,mG_get];exact⟨_,_,rfl⟩
 ·rw[if_neg h0]at hb ⊢;cases hj:ss[b - 1]? with
  |some x=>exact h x (List.mem_of_getElem? hj)
  |none=>
   rw[hj]at hb;have hb:((mG gl).get b).live:=hb;rw[mG_top gl b (by rw[mG_size];omega)]at hb;exact hb.elim
theorem DE{ss:List BH}(h:∀s∈ss,∃o c,s= .cells o c):GF (mS gl ss):=λb hb=>GX h b (bR hb)
theorem K7(ss:List BH):(mS gl ss).size=1+ss.length:=by unfold mS;rw[CQ,mG_size]
theorem Wj{B0:Nat}{ι:Ren}{ss:List BH}{W:World}(hr:Rel B0 1 ι (mS gl ss) W)(hok:∀s∈ss,okB s/\seenB (1+ss.length) s):Rel B0 1 (ι.sub id λi=>Nat.blt i (1+ss.length)) (mS gl ss) W:=by
 have hin:∀b L,(ι.sub id λi=>Nat.blt i (1+ss.length)) b=some L->b<1+ss.length/\ι b=some L:=λb L h=>by
  obtain⟨g1,g2⟩:=sub_id _ _ _ _ h;exact⟨by simpa[Nat.blt_eq]using g1,g2⟩
 refine⟨λb L hb hL=>?_,λb₁ b₂ L₁ L₂ b1 b2 e1 e2 l1 l2 g0 e=>hr.inj _ _ _ _ b1 b2 (hin _ _ e1).2 (hin _ _ e2).2 l1 l2 g0 e,hr.floor,λg hg=>?_,hr.top⟩
 ·obtain⟨g1,g2⟩:=hin b L hL;have hb0:=hr.blk b L hb g2;by_cases h0:b=0
  ·subst h0;have e0:(mS gl ss).get 0= .cells false gl:=by rw[DB,if_pos (by decide),mG_get]
   rw[e0]at hb0 ⊢;exact(FH (ρ:=id) (k:=λi=>Nat.blt i (1+ss.length)) CO).rel B0 ι L W hb0
  ·have hj:b - 1<ss.length:=by omega
   have eb:(mS gl ss).get b=ss[b - 1]:=by rw[DB,if_neg (by omega),List.getElem?_eq_getElem hj]
   rw[eb]at hb0 ⊢;obtain⟨k1,k2⟩:=hok _ (List.getElem_mem hj);have:=bsim_ren (ρ:=id) k1 k2;rw[renB_id k1]at this;exact this.rel B0 ι L W hb0
 ·obtain⟨L,p1,p2⟩:=hr.glob g hg;obtain rfl:g=0:=by omega
  refine⟨L,?_,p2⟩;show(if Nat.blt 0 (1+ss.length)=true then ι 0 else none)=some L;rw[if_pos (by simp[Nat.blt_eq];omega)];exact p1
theorem Sk{B0:Nat}{ι:Ren}{own:Bool}{L:List Value}{W:World}(hr:Rel B0 1 ι (mS gl [.cells own L]) W):Rel B0 1 ι (mS gl [.cells false L]) W:=by
 have hlive:∀b,((mS gl [.cells false L]).get b).live->((mS gl [.cells own L]).get b).live:=λb hb=>by
  rw[DB]at hb ⊢;split
  ·rename_i h;rw[if_pos h]at hb;exact hb
  ·rename_i h;rw[if_neg h]at hb;rcases hj:b - 1 with _|j
   ·rw[hj]at hb;trivial
   ·rw[hj]at hb;exact hb
 refine⟨λb L' hb hL=>?_,λb₁ b₂ L₁ L₂ b1 b2 e1 e2 l1 l2 g0 e=>hr.inj _ _ _ _ b1 b2 e1 e2 (hlive _ l1) (hlive _ l2) g0 e,hr.floor,hr.glob,DY _⟩
 have h:=hr.blk b L' hb hL
 have hb:b<2:=hb
 have:b=0\/b=1:=by omega
 rcases this with rfl|rfl
 ·have e0:∀o,(mS gl [.cells o L]).get 0= .cells false gl:=λo=>by rw[DB,if_pos (by decide),mG_get]
  rw[e0]at h ⊢;exact h
 ·have e1:∀o,(mS gl [.cells o L]).get 1= .cells o L:=λo=>by rw[DB];rfl
  rw[e1]at h ⊢;exact eu h
theorem JC{l:List Bb}{p:Nat}(h:p∈A5 l):p<l.length:=by
 have key:∀(k q:Nat),p∈Bp l k q->p<l.length:=by
  intro k;induction k with
  |zero=>intro q h;simp[Bp]at h
  |succ k ih=>
   intro q h;simp only[Bp]at h;cases hx:l[q]? with
   |none=>rw[hx]at h;simp at h
   |some x=>
    rw[hx]at h;simp only[List.mem_cons]at h;rcases h with rfl|h
    ·exact(List.getElem?_eq_some_iff.1 hx).1
    ·exact ih _ h
 exact key _ _ h
def aS:Oper:={dst:=some 4,op:= .assign (.tmp 10),type:=3,pos:= "shape.go:36",after:= #[],guard:=none}
theorem three{o1 o2 o3:Bool}{a b c:List Value}:∀s∈ [BH.cells o1 a, .cells o2 b, .cells o3 c],∃o c,s= .cells o c:=by
 intro s hs
 simp only[List.mem_cons,List.not_mem_nil,or_false]at hs
 rcases hs with rfl|rfl|rfl<;>exact⟨_,_,rfl⟩
theorem four{o1 o2 o3 o4:Bool}{a b c d:List Value}:∀s∈ [BH.cells o1 a, .cells o2 b, .cells o3 c, .cells o4 d],∃o c,s= .cells o c:=by
 intro s hs
 simp only[List.mem_cons,List.not_mem_nil,or_false]at hs
 rcases hs with rfl|rfl|rfl|rfl<;>exact⟨_,_,rfl⟩
theorem wB{o1:Bool}{a:List Value}:∀s∈ [BH.cells o1 a],∃o c,s= .cells o c:=by
 intro s hs
 obtain rfl:=List.mem_singleton.1 hs
 exact⟨_,_,rfl⟩
theorem cA(s:List Nat)(n nb:Nat):okB (.cells true (AW s n))/\seenB nb (.cells true (AW s n)):=by
 constructor<;>
 ·intro v hv;obtain⟨i,_,rfl⟩:=List.mem_map.1 hv;rfl
theorem Y6{B0:Nat}{own:Bool}{l:List Bb}(hS:D7 l):EJ Tryz.prog B0 1 69 [A6 1 l.length] (mS gl [.cells own (AE l)]) (Yu l.length) (mS gl [.cells own (AE l), .cells true (AW (A5 l) l.length)]):=by
 intro ι w args' hr hf hargs
 have hm:=hS.most
 have hcp:∀o:Bool,okB (.cells o (AE l))/\∀nb,seenB nb (.cells o (AE l)):=λo=>⟨λv hv=>Ev (List.all_eq_true.1 (BT l) v hv),λnb v hv=>Di (List.all_eq_true.1 (BT l) v hv)⟩
 obtain⟨ι0,hι0⟩:∃ι0,(ι.sub id λi=>Nat.blt i (1+ [BH.cells false (AE l)].length))=ι0:=⟨_,rfl⟩
 have hat:∀b,b<2->ι0 b=ι b:=λb hb=>by
  rw[←hι0];show(if Nat.blt b 2=true then ι b else none)=ι b;rw[if_pos (by simp[Nat.blt_eq];omega)]
 have hno:∀b,2<=b->ι0 b=none:=λb hb=>by
  rw[←hι0];show(if Nat.blt b 2=true then ι b else none)=none;rw[if_neg (by simp[Nat.blt_eq];omega)]
 have hr0:Rel B0 1 ι0 (td false (AE l)) w:=by
  rw[←hι0];exact Wj (Sk hr) (λs hs=>by obtain rfl:=List.mem_singleton.1 hs;exact⟨(hcp false).1,(hcp false).2 _⟩)
 have hs0:Go.DI.St B0 w ι0 (td false (AE l)) w:=⟨hr0,λb hb=>hno b hb,Below.refl _ _,λb L hL ho=>by
  exfalso;unfold td at ho;rw[DB]at ho;split at ho
  ·rename_i h0;obtain rfl:b=0:=by omega
   rw[mG_get]at ho;cases ho
  ·rcases hj:b - 1 with _|j
   ·rw[hj]at ho;cases ho
   ·rw[hj]at ho;have ho:((mG gl).get b).own=true:=ho;rw[mG_top gl b (by rw[mG_size];omega)]at ho;cases ho⟩
 have hargs0:Bd ι0 [A6 1 l.length] args':=by
  cases hargs with
  |cons h t=>
   cases t;refine .cons ?_ .nil;have:=Vj (ρ:=id) (nb:=2) (v:=A6 1 l.length) rfl rfl;rw[Vo (by rfl)]at this;rw[←hι0];exact this ι _ h
 have hst:=LV (nt:=15) hargs0
 have e0:AB 15 (Bq [A6 1 l.length])=AB 15 (up (Bq [A6 1 l.length]) [(0,A6 1 l.length)]):=by rw[up_self _ _ (by intro q hq;obtain rfl:=List.mem_singleton.1 hq;rfl)]
 have hst:Bg ι0 15 (AB 15 (up (Bq [A6 1 l.length]) [(0,A6 1 l.length)])) {tmps:=args'.toArray++Array.replicate (Tryz.f69.ntmps - args'.toArray.size) undef,defers:= []}:=by
  rw[←e0];exact hst
 refine(callsIn_wide (n:=1)).1 (callsIn_of_wp_marks zY zZ trivial ?_ rfl)
 rw[s7]
 refine wpIn_seq (Db Bw hK Ee (Jn B0) Ga TD OU (ni _ false (AE l) l.length).1 (ni _ false (AE l) l.length).2 AN hs0 (DE wB) hst λι1 a1 W1 t1 hs1 ht1 hv1 hd1 hk1 hkp1=>?_)
 simp only[Ex.to,Exit.then]
 obtain⟨x1,hx1⟩:=ht1.full _ (G9 hv1)
 refine wpIn_seq (Db Bw hK Ee (Jn B0) Ga TD OU (nj x1 false (AE l) (AW [] l.length) l.length).1 (nj x1 false (AE l) (AW [] l.length) l.length).2 (AA (sd hm) AN) hs1 (DE wB) hx1 λι2 a2 W2 t2 hs2 ht2 hv2 hd2 hk2 hkp2=>?_)
 simp only[Ex.to,Exit.then]
 obtain⟨x2,hx2⟩:=ht2.full _ (G9 hv2)
 refine wpIn_seq (wpIn_seq (Db Bw hK Ee (Jn B0) Ga TD OU (nk x2 false (AE l) (AW [] l.length) l.length).1 (nk x2 false (AE l) (AW [] l.length) l.length).2 AN hs2 (DE three) hx2 λι3 a3 W3 t3 hs3 ht3 hv3 hd3 hk3 hkp3=>?_))
 simp only[Ex.to,Exit.then]
 have hat3:=G9 hv3
 have h93:t3.at 9=Qb 4:=hat3 (9,Qb 4) (by simp)
 have h33:t3.at 3=Bc 3 0:=hat3 (3,Bc 3 0) (by simp)
 obtain⟨Lb,hLb,hfun⟩:=Qd ht3 h93
 have hz3:(Uz false (AE l) (AW [] l.length) l.length).size=5:=by kernel_rfl
 have hG:∀s,(Uz false (AE l) (AW s l.length) l.length).get 0= .cells false gl/\(Uz false (AE l) (AW s l.length) l.length).get 1= .cells false (AE l)/\(Uz false (AE l) (AW s l.length) l.length).get 4= .cells true [A6 1 l.length]/\(Uz false (AE l) (AW s l.length) l.length).size=5:=λs=>⟨by kernel_rfl,by kernel_rfl,by kernel_rfl,by kernel_rfl⟩
 have hrel93:∀(s:List Nat) (W:World),Go.DI.St B0 w ι3 (Uz false (AE l) (AW s l.length) l.length) W->Rel B0 1 (i93 ι3 4) (Hz (AE l) l.length) W:=λs W h=>by
  obtain⟨g0,g1,g4,gz⟩:=hG s;exact cE h (by rw[gz];decide) (by rw[gz];decide) (by decide) g0 g1 g4
 have hi2:i93 ι3 4 2=some Lb:=by rw[Jo ι3 4 2 (by decide)];exact hLb
 refine wpIn_block (Nv (m0:=Uz false (AE l) (AW [] l.length) l.length) (ι:=ι3) hs3 (Ds:= []) (λD hD=>by simp at hD) (by decide) hfun (enters_of jx (by kernel_rfl) jy) (Jp (hrel93 [] W3 hs3) hi2 hS) (λh k=>cF h k) (λW k o o' _ hk hno' _=>cG W k o o' hk hno') (λx=>rfl)
  (λpre=>Uz false (AE l) (AW (pre.map Subtype.val) l.length) l.length) rfl (λpre b hb=>GX four b hb)
  (λx=>({tmps:=a3.tmps.setIfInBounds 10 (.int .i64 (x.1:Int)),defers:= []}:Act).put (some 4) (.int .i64 (x.1:Int))) ?_ ?_ (λpre W W' h _=>hrel93 _ W' h) ?_)
 ·intro k x W K' hK';rw[show ZK 3= #[aS]by kernel_rfl];refine Jg (op:=aS) (x:= .tmp 10) rfl rfl ?_;have ez:((#[10]:Array Tmp).zip (Sl l x)).foldl (λt (p,v)=>t.setIfInBounds p v) a3.tmps=a3.tmps.setIfInBounds 10 (.int .i64 (x.1:Int)):=by simp[Sl]
  rw[ez]
  have:({tmps:=a3.tmps.setIfInBounds 10 (.int .i64 (x.1:Int)),defers:= []}:Act).eval (.tmp 10)= .int .i64 (x.1:Int):=by
   have h15:10<a3.tmps.size:=by rw[ht3.1];decide
   show(a3.tmps.setIfInBounds 10 (.int .i64 (x.1:Int))).getD 10 undef=_;rw[Dh,if_pos ⟨rfl,h15⟩]
  rw[this];exact hK'
 ·intro k pre x W Q' hx' hst' hQ';have hp:x.1<l.length:=JC x.2
  have ht4:Bg ι3 15 ((t3.set 10 (.int .i64 (x.1:Int))).set 4 (.int .i64 (x.1:Int))) ((({tmps:=a3.tmps.setIfInBounds 10 (.int .i64 (x.1:Int)),defers:= []}:Act)).put (some 4) (.int .i64 (x.1:Int))):=
   Bg.putD (n:=15) (dst:=some 4) (Bg.setI (N:=15) ht3 (by decide) (.int _ _)) rfl (.int _ _)
  obtain⟨x4,hx4⟩:=ht4.full [(3,Bc 3 0),(4, .int .i64 (x.1:Int))] (by
   intro q hq;simp only[List.mem_cons,List.not_mem_nil,or_false]at hq;rcases hq with rfl|rfl
   ·show(AF.set _ 4 _).at 3=_;rw[AF.at_set_ne _ (by decide)];exact(AF.at_set_ne _ (by decide) _).trans h33
   ·exact AF.at_set_same _ _ _)
  refine GS Bw hK Ee (Jn B0) Ga TD OU (by kernel_rfl) (nm x4 false (AE l) (AW (pre.map Subtype.val) l.length) (AW (pre.map Subtype.val++ [x.1]) l.length) l.length (x.1:Int)).1 (nm x4 false (AE l) (AW (pre.map Subtype.val) l.length) (AW (pre.map Subtype.val++ [x.1]) l.length) l.length (x.1:Int)).2
   (AA ⟨by omega,by omega⟩ (AA (se hp) AN)) hst' (DE four) hx4 hx' λι5 a5 W5 t5 hs5 ht5 hv5 hd5 hk5 hkp5=>?_
  have hι5:ι5=ι3:=by
   funext b;rcases Nat.lt_or_ge b 5 with h|h
   ·exact hk5 b h
   ·rw[hs5.fresh b h,hst'.fresh b h]
  subst hι5;refine hQ' a5 W5 hkp5 ?_;rw[List.map_append];exact hs5
 ·intro D xs W hD hxs hst' hmk;have hxs:xs.map Subtype.val=A5 l:=hxs;rw[hxs]at hst';simp only[Exit.inBlock,Exit.then];have ht5:Bg ι3 15 t3 {a3 with defers:={target:= .collected D,args:= #[]}::a3.defers}:=ht3;obtain⟨x5,hx5⟩:=ht5.full [(3,Bc 3 0)] (by intro q hq;obtain rfl:=List.mem_singleton.1 hq;exact h33);refine wpIn_seq (Db Bw hK Ee (Jn B0) Ga TD OU (nq x5 false (AE l) (AW (A5 l) l.length) l.length).1 (nq x5 false (AE l) (AW (A5 l) l.length) l.length).2 AN hst' (DE four) hx5 λι6 a6 W6 t6 hs6 ht6 hv6 hd6 hk6 hkp6=>?_);simp only[Ex.to,Exit.then];refine wpIn_ret ?_;have hd3':a3.defers= []:=by rw[hd3,hd2,hd1]
  have hmk6:=hmk.keeps hkp6 D (List.mem_cons_self ..);show LeavesInM Fence.wide 1 Tryz.prog Tryz.f69 a6.tmps _ a6.defers .returning W6;rw[hd6,hd3'];refine⟨by simp, .inl ⟨D,W6.putObj D (.deferred none),rfl,run_takeDeferred hmk6,_,results_tmp rfl _ _ _,?_⟩⟩
  have hs7:Go.DI.St B0 w ι6 (Uz false (AE l) (AW (A5 l) l.length) l.length) (W6.putObj D (.deferred none)):=hs6.grown (λb hb=>GX four b hb) (B:=w.heap.size) (Nat.le_refl _) (grownBy_putObj' W6 D _) (λr e=>by
   cases e;exact⟨Nat.le_trans hs3.below.size hD,_,hmk6,rfl⟩)
  have hv2:t6.at 2=Yu l.length:=G9 hv6 (2,Yu l.length) (by simp);have hret:=ht6.2 2;rw[hv2]at hret
  have hown2:∀L,ι6 2=some L->w.heap.size<=L.block:=λL hL=>hs7.own 2 L hL (by
   show((mS gl _).get 2).own=true;rw[DB];rfl)
  obtain⟨u,hu⟩:∃u,a6.tmps.getD 2 undef=u:=⟨_,rfl⟩;rw[hu]at hret;obtain⟨W7,hW7⟩:∃W7,W6.putObj D (.deferred none)=W7:=⟨_,rfl⟩;rw[hW7]at hs7;have hb7:Below w.heap.size w W7:=hs7.below;have h2none:ι 2=none:=hf 2 (by show 2<=2;omega) (by show 2<3;omega)
  have hle:ι.le λb=>if b=2 then ι6 2 else ι b:=λb L hL=>by
   show(if b=2 then ι6 2 else ι b)=some L;rw[if_neg (by rintro rfl;rw[h2none]at hL;cases hL)];exact hL
  have hsame:∀b,b<2->(mS gl [.cells own (AE l), .cells true (AW (A5 l) l.length)]).get b=(mS gl [.cells own (AE l)]).get b:=λb hb=>by
   have:b=0\/b=1:=by omega
   rcases this with rfl|rfl
   ·rw[DB,DB];rfl
   ·rw[DB,DB];rfl
  have hg2:(mS gl [.cells own (AE l), .cells true (AW (A5 l) l.length)]).get 2= .cells true (AW (A5 l) l.length):=by kernel_rfl
  show∃v' ι',Ending.returned (a6.tmps.getD 2 undef)= .returned v'/\_;rw[hW7,hu];refine⟨u,λb=>if b=2 then ι6 2 else ι b,rfl,?_,⟨λb L hb hL=>?_,λb₁ b₂ L₁ L₂ b1 b2 e1 e2 l1 l2 g0 e=>?_,hs7.rel.floor,λg hg=>?_,DY _⟩,⟨hle,λb hb=>?_,hb7.os,hb7.output,hb7.tape,hb7.size,λB hB _=>hb7.block B hB,λb L h1 h2 hL=>?_,by show 2<=3;omega,λb hb ho=>?_⟩⟩
  ·cases hret with
   |slc _ _ _ _ L hL=>exact .slc _ _ _ _ L (by show(if(2:Nat)=2 then ι6 2 else ι 2)=some L;rw[if_pos rfl];exact hL)
  ·have hb:b<3:=hb;have hL:(if b=2 then ι6 2 else ι b)=some L:=hL;by_cases h2:b=2
   ·subst h2;rw[if_pos rfl]at hL;rw[hg2];have:=hs7.rel.blk 2 L (by show 2<5;omega) hL;rw[show(Uz false (AE l) (AW (A5 l) l.length) l.length).get 2= .cells true (AW (A5 l) l.length)by kernel_rfl]at this;obtain⟨rc,e,fr,q1,q2,q3,q4,q5⟩:=this;refine⟨rc,e,fr,q1,q2,q3,λi v hv=>?_,q5⟩;obtain⟨v',z1,z2⟩:=q4 i v hv;refine⟨v',z1,?_⟩;obtain⟨k,_,rfl⟩:=List.mem_map.1 (List.mem_of_getElem? hv);exact Dn _ _ _ _ z2
   ·rw[if_neg h2]at hL;rw[hsame b (by omega)];have h:=hr.blk b L (by show b<2;omega) hL;exact h.monoL hle λhl=>hb7.block _ (h.lt hl)
  ·have b1:b₁<3:=b1;have b2:b₂<3:=b2;have e1:(if b₁=2 then ι6 2 else ι b₁)=some L₁:=e1;have e2:(if b₂=2 then ι6 2 else ι b₂)=some L₂:=e2
   have low:∀b L,b<2->ι b=some L->((mS gl [.cells own (AE l), .cells true (AW (A5 l) l.length)]).get b).live->L.block<w.heap.size:=λb L hb hL hl=>by
    rw[hsame b hb]at hl;exact(hr.blk b L (by show b<2;omega) hL).lt hl
   by_cases h1:b₁=2<;>by_cases h2:b₂=2
   ·rw[h1,h2]
   ·rw[if_pos h1]at e1;rw[if_neg h2]at e2;have:=hown2 L₁ e1;have:=low b₂ L₂ (by omega) e2 l2;omega
   ·rw[if_neg h1]at e1;rw[if_pos h2]at e2;have:=hown2 L₂ e2;have:=low b₁ L₁ (by omega) e1 l1;omega
   ·rw[if_neg h1]at e1;rw[if_neg h2]at e2;rw[hsame b₁ (by omega)]at l1;rw[hsame b₂ (by omega)]at l2;exact hr.inj _ _ _ _ (by show b₁<2;omega) (by show b₂<2;omega) e1 e2 l1 l2 g0 e
  ·obtain rfl:g=0:=by omega
   exact hr.glob 0 (by decide)
  ·show(if b=2 then ι6 2 else ι b)=ι b;have hb:b<2\/3<=b:=hb;rw[if_neg (by omega)]
  ·have h1:2<=b:=h1;have h2:b<3:=h2;obtain rfl:b=2:=by omega
   have hL:(if(2:Nat)=2 then ι6 2 else ι 2)=some L:=hL;rw[if_pos rfl]at hL;exact .inl (hown2 L hL)
  ·rw[hsame b hb]at ho;exact ho
noncomputable def yg:Code:=AP Tryz.f45
theorem yh:Tryz.prog.funcs[45]?=some Tryz.f45:=by kernel_rfl
theorem yi:Tryz.f45.body=some yg:=by kernel_rfl
noncomputable def Ht(i:Nat):Array Oper:=JF yg i
noncomputable def mq:Code:= .block 0 (.seq (.region 1 (Ht 1) false) (.cond (.tmp 16) (.seq (.region 2 (Ht 2) false) .ret) (.seq (.region 3 (Ht 3) false) (.cond (.tmp 21) (.seq (.region 4 (Ht 4) false) .ret) .skip))))
noncomputable def mr:Code:= .block 1 (.loop (.seq (.region 6 (Ht 6) false) (.seq (.cond (.tmp 36) .skip (.exit 1)) (.seq (.block 2 (.seq (.region 7 (Ht 7) false) (.seq (.region 8 (Ht 8) false) (.cond (.tmp 42) (.seq (.region 9 (Ht 9) false) .ret) .skip)))) (.region 10 (Ht 10) false)))))
noncomputable def bw:Code:= .block 4 (.seq (.region 14 (Ht 14) false) (.seq (.seq (.region 15 (Ht 15) false) (.cond (.tmp 56) (.seq (.region 16 (Ht 16) false) .ret) .skip)) (.region 17 (Ht 17) true)))
noncomputable def PX:Code:= .block 6 (.seq (.region 21 (Ht 21) false) (.seq (.seq (.region 22 (Ht 22) false) (.cond (.tmp 85) (.exit 6) .skip)) (.seq (.region 23 (Ht 23) false) (.seq (.region 24 (Ht 24) false) (.cond (.tmp 107) (.seq (.region 25 (Ht 25) false) .ret) .skip)))))
noncomputable def mu:Code:= .seq (.region 26 (Ht 26) false) (.cond (.tmp 114) (.seq (.region 27 (Ht 27) false) .ret) .skip)
theorem qP:yg= .seq (.region 0 (Ht 0) false) (.seq mq (.seq (.seq (.region 5 (Ht 5) false) mr) (.seq (.region 11 (Ht 11) false) (.seq (.seq (.region 12 (Ht 12) false) (.block 3 (.rangeFunc (.tmp 47) #[48] (.region 13 (Ht 13) false) bw)))
  (.seq (.region 18 (Ht 18) false) (.seq (.seq (.region 19 (Ht 19) false) (.block 5 (.rangeFunc (.tmp 67) #[68] (.region 20 (Ht 20) false) PX))) (.seq mu (.seq (.region 28 (Ht 28) false) .ret)))))))):=by kernel_rfl
noncomputable def Wv(c op z:Int)(wide reg:Bool):List Value:= [.int .i64 c, .int .i64 op, .int .i64 z, .bool wide, .bool reg]
noncomputable def Sa(w:List Value):Value:= .tuple ⟨[.agg ⟨w⟩, .int .i64 0]⟩
noncomputable def hC(w x:List Value)(y:List Value)(b6 b7:Bool)(own8:Bool)(ors:CX):H.Hint where
 ix t:=Nat.beq t 30||Nat.beq t 143
 ld k t _:=cond (Nat.beq t 110) (some (.agg ⟨x⟩)) (cond (Nat.beq t 4 && Nat.beq k 8) (some (.bool true)) none)
 cmp op t:=cond (Nat.beq t 3) (BinOp.rec (motive:=λ_=>Option Bool) none none none none none none none none none none none none none (cond own8 (some false) none) none (some false) (some false) op) none
 ap _:=none
 call f:=cond (Nat.beq f 68) (some (Sa w)) (cond (Nat.beq f 47) (some (Sa w)) (cond (Nat.beq f 48) (some undef) (cond (Nat.beq f 69) (some (.slice (some ⟨8,0,none⟩) y.length y.length)) none)))
 spec _ _ _ _:=False
 blk:=0
 specM f:=some λargs m v=>ors f args m=some (v,cond (Nat.beq f 69) (m.push (.cells true y)) m)
 eff f m:=cond (Nat.beq f 69) (m.push (.cells true y)) m
 cmpY op t v:=cond (Nat.beq t 3) (BinOp.rec (motive:=λ_=>Option Bool) none none none none none none none none none none none (match v with| .int _ n=>cond (Nat.beq n.toNat 0) (some false) none|_=>none) (match v with| .int _ n=>cond (Nat.beq n.toNat 6) (some b6) (cond (Nat.beq n.toNat 7) (some b7) none)|_=>none) none none none none op) none
noncomputable def wK(L:List Value):Mem:=mS gl [.cells false L]
noncomputable def MM(n:Nat):BH:= .cells true (I2 (A6 1 n))
noncomputable def cI(z:Int):BH:= .cells true [.int .i64 z]
noncomputable def tJ(L:List Value)(n:Nat):Mem:=mS gl [.cells false L,MM n,cI 0,cI 0]
noncomputable def zo(L:List Value)(n:Nat)(a c:Int):Mem:=mS gl [.cells false L,MM n,cI 0,cI 0,cI a,cI c]
noncomputable def Qa(L:List Value)(n:Nat)(a c:Int):Mem:=mS gl [.cells false L,MM n,cI 0,cI 0,cI a,cI c, .cells true [A6 1 n]]
noncomputable def yj(L:List Value)(n:Nat)(a c:Int)(w:List Value):Mem:=mS gl [.cells false L,MM n,cI 0,cI 0,cI a,cI c, .cells true [A6 1 n], .cells true w]
noncomputable def qQ(n:Nat):Value:= .slice (some ⟨8,0,none⟩) n n
noncomputable def zp(L:List Value)(n:Nat)(a c:Int)(y:List Value):Mem:=mS gl [.cells false L,MM n,cI 0,cI 0,cI a,cI c, .cells true [A6 1 n], .cells true y, .cells true [qQ y.length]]
noncomputable def Km(L:List Value)(n:Nat)(a c:Int)(y:List Value):Mem:=mS gl [.cells false L,MM n,cI 0,cI 0,cI a,cI c, .cells true [A6 1 n], .cells true y, .cells true [qQ y.length], .cells true [A6 1 n]]
noncomputable def yk(L:List Value)(n:Nat)(a c:Int)(y w:List Value):Mem:=mS gl [.cells false L,MM n,cI 0,cI 0,cI a,cI c, .cells true [A6 1 n], .cells true y, .cells true [qQ y.length], .cells true [A6 1 n], .cells true w]
noncomputable def qR(ors:CX):H.Hint:=hC [] [] [] false false false ors
noncomputable def yl(n:Nat):Prop:=BY Tryz.prog kp .eql 3 (.int .i64 (Int.ofNat n)) (.int .i64 0)=some (.bool false)
noncomputable def wL(n m:Int):Prop:=BY Tryz.prog kp .gtr 3 (.int .i64 n) (.int .i64 m)=some (.bool false)
theorem u9(x:Nat->Value)(ors:CX)(L:List Value)(n:Nat):Rn (LW (qR ors) Tryz.prog kp (.region 0 (Ht 0) false) 116 [1,2,3] (AB 116 (up x [(0,Eu (A6 1 n))])) (wK L)) ((.normal,[Bc 2 0,Bc 3 0,Bc 4 0],tJ L n),[]):=⟨by kernel_rfl,by kernel_rfl⟩
theorem mv(x:Nat->Value)(ors:CX)(L:List Value)(n:Nat):Rn (LW (qR ors) Tryz.prog kp mq 116 [1,2,3] (AB 116 (up x [(1,Bc 2 0),(2,Bc 3 0),(3,Bc 4 0)])) (tJ L n)) ((.normal,[Bc 2 0,Bc 3 0,Bc 4 0],tJ L n),[yl n,wL (Int.ofNat n) 512,wL 0 4]):=⟨by kernel_rfl,by kernel_rfl⟩
theorem mw(x:Nat->Value)(ors:CX)(L:List Value)(n:Nat):Rn (LW (qR ors) Tryz.prog kp (.seq (.region 5 (Ht 5) false) mr) 116 [1,2,3] (AB 116 (up x [(1,Bc 2 0),(2,Bc 3 0),(3,Bc 4 0)])) (tJ L n)) ((.normal,[Bc 2 0,Bc 3 0,Bc 4 0],tJ L n),[]):=⟨by kernel_rfl,by kernel_rfl⟩
theorem my(x:Nat->Value)(ors:CX)(L:List Value)(n:Nat):Rn (LW (qR ors) Tryz.prog kp (.region 11 (Ht 11) false) 116 [1,2,3,6,7] (AB 116 (up x [(1,Bc 2 0),(2,Bc 3 0),(3,Bc 4 0)])) (tJ L n)) ((.normal,[Bc 2 0,Bc 3 0,Bc 4 0,Bc 5 0,Bc 6 0],zo L n 0 0),[]):=⟨by kernel_rfl,by kernel_rfl⟩
noncomputable def MN:List (Nat×Value):= [(1,Bc 2 0),(2,Bc 3 0),(3,Bc 4 0),(6,Bc 5 0),(7,Bc 6 0)]
noncomputable def nA:List Value:= [Bc 2 0,Bc 3 0,Bc 4 0,Bc 5 0,Bc 6 0]
theorem nB(x:Nat->Value)(ors:CX)(L:List Value)(n:Nat)(a c:Int):Rn (LW (qR ors) Tryz.prog kp (.region 12 (Ht 12) false) 116 [1,2,3,6,7,47] (AB 116 (up x MN)) (zo L n a c)) ((.normal,nA++ [Qb 7],Qa L n a c),[]):=⟨by kernel_rfl,by kernel_rfl⟩
theorem ym(x:Nat->Value)(ors:CX)(L:List Value)(n:Nat)(a c p cl op z:Int)(wide reg:Bool):Rn (LW (hC (Wv cl op z wide reg) [] [] false false false ors) Tryz.prog kp bw 116 [] (AB 116 (up x (MN++ [(8, .int .i64 p)]))) (Qa L n a c)) ((.normal,[],yj L n p cl (Wv cl op z wide reg)),[ors 68 [Eu (A6 1 n), .int .i64 p] (Qa L n a c)=some (Sa (Wv cl op z wide reg),Qa L n a c)]):=⟨by kernel_rfl,by kernel_rfl⟩
theorem nC(x:Nat->Value)(ors:CX)(L y:List Value)(n:Nat)(a c:Int):Rn (LW (hC [] [] y false false false ors) Tryz.prog kp (.region 18 (Ht 18) false) 116 [1,2,3,6,7,11] (AB 116 (up x MN)) (Qa L n a c)) ((.normal,nA++ [Bc 9 0],zp L n a c y),[ors 69 [A6 1 n] (Qa L n a c)=some (qQ y.length,(Qa L n a c).push (.cells true y))]):=⟨by kernel_rfl,by kernel_rfl⟩
theorem nD(x:Nat->Value)(ors:CX)(L y:List Value)(n:Nat)(a c:Int):Rn (LW (qR ors) Tryz.prog kp (.region 19 (Ht 19) false) 116 [1,2,3,6,7,11,67] (AB 116 (up x (MN++ [(11,Bc 9 0)]))) (zp L n a c y)) ((.normal,nA++ [Bc 9 0,Qb 10],Km L n a c y),[]):=⟨by kernel_rfl,by kernel_rfl⟩
noncomputable def fI(c k:Int)(b:Bool):Prop:=BY Tryz.prog kp .neq 3 (.int .i64 c) (.int .i64 k)=some (.bool b)
theorem ua(x:Nat->Value)(ors:CX)(L X y:List Value)(n:Nat)(a c p cl op z:Int)(wide reg:Bool):Rn (LW (hC (Wv cl op z wide reg) X y true true true ors) Tryz.prog kp PX 116 [] (AB 116 (up x (MN++ [(11,Bc 9 0),(12, .int .i64 p)]))) (Km L n a c y)) ((.normal,[],yk L n a c y (Wv cl op z wide reg)),[I3 p n,Jm L p X,ors 47 [.agg ⟨X⟩] (Km L n a c y)=some (Sa (Wv cl op z wide reg),Km L n a c y),fI cl 6 true,fI cl 7 true]):=⟨by kernel_rfl,by kernel_rfl⟩
theorem nE(x:Nat->Value)(ors:CX)(L y:List Value)(n:Nat)(a c:Int):Rn (LW (qR ors) Tryz.prog kp (.region 28 (Ht 28) false) 116 [2,3] (AB 116 (up x MN)) (Km L n a c y)) ((.normal,[Bc 3 0,Bc 4 0],Km L n a c y),[]):=⟨by kernel_rfl,by kernel_rfl⟩
theorem ub(x:Nat->Value)(ors:CX)(L y:List Value)(n:Nat)(a:Int):Rn (LW (hC [] [] [] true true false ors) Tryz.prog kp mu 116 [1,2,3,6,7] (AB 116 (up x MN)) (Km L n a 9 y)) ((.normal,nA,Km L n a 9 y),[fI 9 7 true]):=⟨by kernel_rfl,by kernel_rfl⟩
noncomputable def WT(p o:Int):Int:=IntKind.wrap .i64 (Int.add (IntKind.wrap .i64 (Int.add p 1)) (IntKind.wrap .i64 o))
noncomputable def wM(t:Int):Prop:=BY Tryz.prog kp .lss 3 (.int .i64 t) (.int .i64 0)=some (.bool false)
noncomputable def wN(t:Int)(n:Nat):Prop:=BY Tryz.prog kp .geq 3 (.int .i64 t) (.int .i64 (Int.ofNat n))=some (.bool false)
noncomputable def qB(y:List Value)(t:Int):Prop:=H.ldOk (.cells true y) (Nat.add 0 (Nat.mul t.toNat 1)) false 1 (.bool true)
noncomputable def K6(i1 i2 i3 o i5:Int):List Value:= [.int .u8 i1, .int .u8 i2, .int .u8 i3, .int .i16 o, .int .i32 i5]
noncomputable def uc(L:List Value)(n:Nat)(a c:Int)(y w x:List Value):Mem:=mS gl [.cells false L,MM n,cI 0,cI 0,cI a,cI c, .cells true [A6 1 n], .cells true y, .cells true [qQ y.length], .cells true [A6 1 n], .cells true w, .cells true x]
theorem ud(x:Nat->Value)(ors:CX)(L y:List Value)(n:Nat)(a c p cl op z i1 i2 i3 o i5:Int)(wide reg:Bool):Rn (LW (hC (Wv cl op z wide reg) (K6 i1 i2 i3 o i5) y false true true ors) Tryz.prog kp PX 116 [] (AB 116 (up x (MN++ [(11,Bc 9 0),(12, .int .i64 p)]))) (Km L n a c y)) ((.normal,[],uc L n a c y (Wv cl op z wide reg) (K6 i1 i2 i3 o i5)),[I3 p n,Jm L p (K6 i1 i2 i3 o i5),ors 47 [.agg ⟨K6 i1 i2 i3 o i5⟩] (Km L n a c y)=some (Sa (Wv cl op z wide reg),Km L n a c y),fI cl 6 false,I3 p n,Jm L p (K6 i1 i2 i3 o i5),wM (WT p o),wN (WT p o) y.length,I3 (WT p o) y.length,qB y (WT p o)]):=⟨by kernel_rfl,by kernel_rfl⟩
theorem ue(x:Nat->Value)(ors:CX)(L y:List Value)(n:Nat)(a c p cl op z i1 i2 i3 o i5:Int)(wide reg:Bool):Rn (LW (hC (Wv cl op z wide reg) (K6 i1 i2 i3 o i5) y true false true ors) Tryz.prog kp PX 116 [] (AB 116 (up x (MN++ [(11,Bc 9 0),(12, .int .i64 p)]))) (Km L n a c y)) ((.normal,[],uc L n a c y (Wv cl op z wide reg) (K6 i1 i2 i3 o i5)),[I3 p n,Jm L p (K6 i1 i2 i3 o i5),ors 47 [.agg ⟨K6 i1 i2 i3 o i5⟩] (Km L n a c y)=some (Sa (Wv cl op z wide reg),Km L n a c y),fI cl 6 true,fI cl 7 false,I3 p n,Jm L p (K6 i1 i2 i3 o i5),wM (WT p o),wN (WT p o) y.length,I3 (WT p o) y.length,qB y (WT p o)]):=⟨by kernel_rfl,by kernel_rfl⟩
open Classical in
noncomputable def tK(l:List Bb):CX:=λf a M=>if f=69/\a= [A6 1 l.length]/\(∃own,M.get 1= .cells own (AE l))/\Fits gl [1] [M.get 1] M then some (.slice (some ⟨M.size,0,none⟩) l.length l.length,M.push (.cells true (AW (A5 l) l.length)))else none
theorem jw{l:List Bb}{f:FuncId}(h:f≠69)(a:List Value)(M:Mem):tK l f a M=none:=if_neg λg=>h g.1
theorem U1{B0:Nat}{own:Bool}{l:List Bb}(hS:D7 l){M:Mem}(g1:M.get 1= .cells own (AE l))(hF:Fits gl [1] [M.get 1] M):
  EJ Tryz.prog B0 1 69 [A6 1 l.length] M (.slice (some ⟨M.size,0,none⟩) l.length l.length) (M.push (.cells true (AW (A5 l) l.length))):=by
 have hcp:∀o:Bool,okB (.cells o (AE l))/\∀nb,seenB nb (.cells o (AE l)):=λo=>⟨λv hv=>Ev (List.all_eq_true.1 (BT l) v hv),λnb v hv=>Di (List.all_eq_true.1 (BT l) v hv)⟩
 have h1:1<M.size:=hF.lt 1 (by simp)
 have r0:DH [1] M 0=0:=rfl
 have r1:DH [1] M 1=1:=rfl
 have r2:DH [1] M 2=M.size:=rfl
 have hA:∀i:Nat,Nat.blt i 2=true->i=0\/i=1:=λi hi=>by
  have:i<2:=by simpa[Nat.blt_eq]using hi
  omega
 obtain⟨ms,hms⟩:∃ms,mS gl [.cells own (AE l)]=ms:=⟨_,rfl⟩
 obtain⟨ms',hms'⟩:∃ms',mS gl [.cells own (AE l), .cells true (AW (A5 l) l.length)]=ms':=⟨_,rfl⟩
 have s1:ms.size=2:=by rw[←hms,K7];rfl
 have s2:ms'.size=3:=by rw[←hms',K7];rfl
 have k0:ms.get 0= .cells false gl:=by rw[←hms,DB,if_pos (by decide),mG_get]
 have k1:ms.get 1= .cells own (AE l):=by rw[←hms,DB];rfl
 have k0':ms'.get 0= .cells false gl:=by rw[←hms',DB,if_pos (by decide),mG_get]
 have k1':ms'.get 1= .cells own (AE l):=by rw[←hms',DB];rfl
 have k2':ms'.get 2= .cells true (AW (A5 l) l.length):=by rw[←hms',DB];rfl
 have hsame:∀b,b<2->ms'.get b=ms.get b:=λb hb=>by
  have:b=0\/b=1:=by omega
  rcases this with rfl|rfl
  ·rw[k0,k0']
  ·rw[k1,k1']
 have hrun:=Y6 (B0:=B0) (own:=own) hS
 rw[hms,hms']at hrun
 refine bF (ρ:=DH [1] M) (A:=λi=>Nat.blt i 2) 1 (λg hg=>⟨hg,by
  obtain rfl:g=0:=by omega
  rfl,by
   obtain rfl:g=0:=by omega
   rfl⟩) hrun ⟨λi hi=>?_,⟨by omega,λ_=>by rw[←hms'];exact DY _,λb hb hl=>?_,λb hb ho=>?_⟩,by rw[←hms];exact DY _,KS hF.top,λi hi=>?_,λi j hi hj _ _ e=>?_,λi q1 q2=>?_,by show M.size+1=_;omega,λi hi=>?_,λi q1 q2=>?_,λb hb hne=>?_⟩ (.cons ?_ .nil) ?_
 ·rcases hA i hi with rfl|rfl<;>omega
 ·rw[hsame b (by omega)]at hl;exact hl
 ·rw[hsame b (by omega)]at ho;exact ho
 ·rcases hA i hi with rfl|rfl
  ·rw[r0];omega
  ·rw[r1];exact h1
 ·rcases hA i hi with rfl|rfl<;>rcases hA j hj with rfl|rfl
  ·rfl
  ·rw[r0,r1]at e;omega
  ·rw[r0,r1]at e;omega
  ·rfl
 ·obtain rfl:i=2:=by omega
  rw[r2];omega
 ·rcases hA i hi with rfl|rfl
  ·rw[k0,r0,hF.gl0];exact FH CO
  ·rw[k1,r1];have h2:=bsim_ren (ρ:=DH [1] M) (nb:=2) (hcp own).1 ((hcp own).2 2)
   have e:Gq (DH [1] M) (.cells own (AE l))=M.get 1:=by
    rw[g1];show BH.cells own _=_;rw[CW (BT l)]
   rw[e]at h2;exact h2
 ·right;have:i=0\/i=1\/i=2:=by omega
  rcases this with rfl|rfl|rfl
  ·rw[k0',r0,Mem.get_push_ne _ (by omega),hF.gl0];exact Is CO
  ·rw[k1',r1,Mem.get_push_ne _ (by omega),g1];have h2:=Rw (ρ:=DH [1] M) (hcp own).1
   have e:Gq (DH [1] M) (.cells own (AE l))= .cells own (AE l):=by
    show BH.cells own _=_;rw[CW (BT l)]
   rw[e]at h2;exact h2
  ·rw[k2',r2,Mem.get_push_same]
   exact Is λv hv=>by
    obtain⟨i,_,rfl⟩:=List.mem_map.1 hv;exact Dn _
 ·rw[Mem.get_push_ne _ (by omega)]
 ·exact Da (ρ:=DH [1] M) (i:=1) rfl
 ·show Rv _ (.slice (some ⟨2,0,none⟩) _ _) _;have:=Vl (ρ:=DH [1] M) (i:=2) (o:=0) (n:=l.length) (c:=l.length);rw[r2]at this;exact this
theorem WU{l:List Bb}:B9 (tK l):=λf a M v M' h=>by
 unfold tK at h
 split at h
 case isFalse=>cases h
 rename_i hc
 simp only[Option.some.injEq,Prod.mk.injEq]at h
 obtain⟨rfl,rfl⟩:=h
 have ht:=hc.2.2.2.top
 refine⟨by show M.size<=M.size+1;omega,λ_=>KS ht,λb hb hl=>?_,λb hb ho=>?_⟩
 ·rw[Mem.get_push_ne _ (by omega)]at hl;exact hl
 ·rw[Mem.get_push_ne _ (by omega)]at ho;exact ho
theorem qS{l:List Bb}(hS:D7 l)(B0:Nat):CU Tryz.prog B0 1 (tK l):=by
 refine⟨λf a M v M' h=>(WU f a M v M' h).size,λf a M v M' h=>?_,λf a M v M' h=>?_⟩
 all_goals
  unfold tK at h;split at h
  case isFalse=>cases h
  rename_i hc;obtain⟨rfl,rfl,⟨own,g1⟩,hF⟩:=hc;simp only[Option.some.injEq,Prod.mk.injEq]at h;obtain⟨rfl,rfl⟩:=h
 ·exact U1 hS g1 hF
 ·exact hasB (by kernel_rfl)
noncomputable def oC(l:List Bb):CX:=ML Qc (tK l)
theorem FL{l:List Bb}:B9 (oC l):=KU Ga WU
theorem HV{l:List Bb}(hS:D7 l)(B0:Nat):CU Tryz.prog B0 1 (oC l):=Mc (Jn B0) (qS hS B0)
theorem qT{l:List Bb}{f:FuncId}(h1:f≠47)(h2:f≠48)(h3:f≠68)(h4:f≠69)(a:List Value)(M:Mem):oC l f a M=none:=by
 unfold oC
 rw[Gt (Mg h1 h2 h3 a M),jw h4]
theorem HW{l:List Bb}{w x y:List Value}{b6 b7 o8:Bool}(f:FuncId)(v:Value)(args:List Value)(m:Mem)(hc:(hC w x y b6 b7 o8 (oC l)).call f=some v)(hs:(hC w x y b6 b7 o8 (oC l)).says f args m v):oC l f args m=some (v,(hC w x y b6 b7 o8 (oC l)).eff f m):=hs
theorem FM{l:List Bb}{w x y:List Value}{b6 b7 o8:Bool}(f:FuncId)(hc:(hC w x y b6 b7 o8 (oC l)).call f=none)(a:List Value)(m:Mem):oC l f a m=none:=
 qT (by rintro rfl;cases hc) (by rintro rfl;cases hc) (by rintro rfl;cases hc) (by rintro rfl;cases hc) a m
end
end Go.Proofs.YtgjflcgmieiafaaGreatDoor
namespace Go.Proofs.YtgjflcgmieiafaaGreatDoor
open Go Go.DI Go.DI.Kit Go.Proofs Go.Cmp Go.RowKit
noncomputable section
def C1(op:Int):Int:=if op=149 then 9 else if op=5 then 7 else if op=24 then 10 else if op=53\/op=85\/op=165\/op=37\/op=173\/op=45 then 6 else if op=113\/op=105\/op=97\/op=121 then 3 else if op=215 then 2 else 1
def K8(l:List Bb)(p:Nat):Int:=match l[p]? with|some x=>C1 x.op|none=>0
theorem K9{l:List Bb}{p:Nat}{x:Bb}(h:l[p]?=some x):K8 l p=C1 x.op:=by unfold K8;rw[h]
theorem nF{x:Bb}(h:ZG x):∃op z w r,Form x (Wv (C1 x.op) op z w r)/\C1 x.op≠6/\C1 x.op≠7:=by
 cases h with
 | @movI d n hd=>exact⟨11,0,true,false,by rw[show C1 (D4 11 d n).op=1 by rfl];exact WV hd,by rw[show C1 (D4 11 d n).op=1 by rfl];decide,by rw[show C1 (D4 11 d n).op=1 by rfl];decide⟩
 | @andI d n hd=>exact⟨5,0,true,false,by rw[show C1 (D4 5 d n).op=1 by rfl];exact WW hd,by rw[show C1 (D4 5 d n).op=1 by rfl];decide,by rw[show C1 (D4 5 d n).op=1 by rfl];decide⟩
 | @movR d s hd hs=>exact⟨11,0,true,true,by rw[show C1 (Bk 11 d s).op=1 by rfl];exact WX hd hs,by rw[show C1 (Bk 11 d s).op=1 by rfl];decide,by rw[show C1 (Bk 11 d s).op=1 by rfl];decide⟩
 | @andR d s hd hs=>exact⟨5,0,true,true,by rw[show C1 (Bk 5 d s).op=1 by rfl];exact WY hd hs,by rw[show C1 (Bk 5 d s).op=1 by rfl];decide,by rw[show C1 (Bk 5 d s).op=1 by rfl];decide⟩
 | @low n=>exact⟨11,0,false,false,by rw[show C1 (HE n).op=1 by rfl];exact bz,by rw[show C1 (HE n).op=1 by rfl];decide,by rw[show C1 (HE n).op=1 by rfl];decide⟩
 |exit=>exact⟨0,0,false,false,by rw[show C1 D0.op=9 by rfl];exact WZ,by rw[show C1 D0.op=9 by rfl];decide,by rw[show C1 D0.op=9 by rfl];decide⟩
 | @load z d s o hz hd hs=>
  rcases hz with rfl|rfl|rfl|rfl
  ·exact⟨0,1,false,false,by rw[show C1 (BL 1 d s o).op=3 by rfl];exact Sb hd hs,by rw[show C1 (BL 1 d s o).op=3 by rfl];decide,by rw[show C1 (BL 1 d s o).op=3 by rfl];decide⟩
  ·exact⟨0,2,false,false,by rw[show C1 (BL 2 d s o).op=3 by rfl];exact Sc hd hs,by rw[show C1 (BL 2 d s o).op=3 by rfl];decide,by rw[show C1 (BL 2 d s o).op=3 by rfl];decide⟩
  ·exact⟨0,4,false,false,by rw[show C1 (BL 4 d s o).op=3 by rfl];exact Sd hd hs,by rw[show C1 (BL 4 d s o).op=3 by rfl];decide,by rw[show C1 (BL 4 d s o).op=3 by rfl];decide⟩
  ·exact⟨0,8,false,false,by rw[show C1 (BL 8 d s o).op=3 by rfl];exact Se hd hs,by rw[show C1 (BL 8 d s o).op=3 by rfl];decide,by rw[show C1 (BL 8 d s o).op=3 by rfl];decide⟩
 | @swap z hz hz1=>
  rcases hz with rfl|rfl|rfl|rfl
  ·omega
  ·exact⟨0,2,false,false,by rw[show C1 (Cm 2).op=2 by rfl];exact Sf,by rw[show C1 (Cm 2).op=2 by rfl];decide,by rw[show C1 (Cm 2).op=2 by rfl];decide⟩
  ·exact⟨0,4,false,false,by rw[show C1 (Cm 4).op=2 by rfl];exact Sg,by rw[show C1 (Cm 4).op=2 by rfl];decide,by rw[show C1 (Cm 4).op=2 by rfl];decide⟩
  ·exact⟨0,8,false,false,by rw[show C1 (Cm 8).op=2 by rfl];exact Sh,by rw[show C1 (Cm 8).op=2 by rfl];decide,by rw[show C1 (Cm 8).op=2 by rfl];decide⟩
theorem nH{x:Bb}{o:Int}(h:pt x):∃op z w r,Form (BJ x o) (Wv (C1 (BJ x o).op) op z w r)/\(C1 (BJ x o).op=6\/C1 (BJ x o).op=7):=by
 cases h with
 | @jif op d n ho hd=>
  rcases ho with rfl|rfl|rfl|rfl
  ·exact⟨3,0,true,false,by rw[show C1 (BJ (DU 3 d n) o).op=6 by rfl];exact W0 hd, .inl rfl⟩
  ·exact⟨5,0,true,false,by rw[show C1 (BJ (DU 5 d n) o).op=6 by rfl];exact Wa hd, .inl rfl⟩
  ·exact⟨10,0,true,false,by rw[show C1 (BJ (DU 10 d n) o).op=6 by rfl];exact Si hd, .inl rfl⟩
  ·exact⟨2,0,true,false,by rw[show C1 (BJ (DU 2 d n) o).op=6 by rfl];exact Wb hd, .inl rfl⟩
 | @jifR op ho=>
  rcases ho with rfl|rfl
  ·exact⟨10,0,true,true,by rw[show C1 (BJ (Ez 10) o).op=6 by rfl];exact PY, .inl rfl⟩
  ·exact⟨2,0,true,true,by rw[show C1 (BJ (Ez 2) o).op=6 by rfl];exact Sj, .inl rfl⟩
 |goto=>exact⟨0,0,false,false,by rw[show C1 (BJ CD o).op=7 by rfl];exact Wc, .inr rfl⟩
theorem Lw{l:List Bb}{p z:Nat}:∀(k q:Nat) (init:List Nat),Bp l k q=init++ [z]->p∈Bp l k q->p=z\/∃x,l[p]?=some x/\p+RZ x∈Bp l k q
 |0,q,init,h,hp=>by simp[Bp]at hp
 |k+1,q,init,h,hp=>by
  simp only[Bp]at h hp ⊢;cases hx:l[q]? with
  |none=>rw[hx]at hp;simp at hp
  |some x=>
   rw[hx]at h hp;simp only at h hp ⊢;cases hr:Bp l k (q+RZ x)with
   |nil=>
    rw[hr]at h hp;have:p=q:=by simpa using hp
    left;cases init with
    |nil=>simp at h;omega
    |cons a b=>simp at h
   |cons y rest=>
    have hy:y=q+RZ x:=by
     cases k with
     |zero=>simp[Bp]at hr
     |succ k=>
      simp only[Bp]at hr;cases hx2:l[q+RZ x]? with
      |none=>rw[hx2]at hr;simp at hr
      |some x2=>rw[hx2]at hr;simp at hr;exact hr.1.symm
    rcases List.mem_cons.1 hp with e|hp'
    ·subst e;exact .inr ⟨x,hx,by rw[hy];simp⟩
    ·cases init with
     |nil=>rw[hr]at h;simp at h
     |cons a b=>
      have h2:Bp l k (q+RZ x)=b++ [z]:=by
       simp only[List.cons_append,List.cons.injEq]at h;exact h.2
      rcases Lw k (q+RZ x) b h2 hp' with g|⟨x',g1,g2⟩
      ·exact .inl g
      ·exact .inr ⟨x',g1,by rw[←hr];exact List.mem_cons_of_mem _ g2⟩
theorem Y7{l:List Bb}(hS:D7 l){p:Nat}{n:Int}(h:l[p]?=some (Bs n))(hp:p∈A5 l):p+2<l.length:=by
 obtain⟨init,z,h1,h2⟩:=hS.last
 rcases Lw l.length 0 init h1 hp with rfl|⟨x,hx,hm⟩
 ·rw[h2]at h;simp[D0,Bs]at h
 ·rw[h]at hx;cases hx;exact JC hm
theorem qU{l:List Bb}(hS:D7 l){p:Nat}(hp:p∈A5 l):∃op z w r,PZ false (AE l) l.length (p:Int) (Wv (K8 l p) op z w r):=by
 rcases hS.found p hp with⟨y,hy,h1⟩|⟨y,o,q,hq,hy,h1,_,_,_⟩|⟨n,h1,h2⟩
 ·obtain⟨op,z,w,r,hf,_,_⟩:=nF hy;exact⟨op,z,w,r,by rw[K9 h1];exact hf.al false l p h1⟩
 ·obtain⟨op,z,w,r,hf,_⟩:=nH (o:=o) hy;exact⟨op,z,w,r,by rw[K9 h1];exact hf.al false l p h1⟩
 ·refine⟨0,0,false,false,?_⟩;rw[K9 h1,show C1 (Bs n).op=10 by rfl];have:=hS.most;exact OF.2.2 false l p h1 h2 (Y7 hS h1 hp) (by omega)
theorem nI:okB (.cells false gl)/\∀nb,seenB nb (.cells false gl):=by
 constructor
 ·intro v hv;simp only[gl,List.mem_cons,List.not_mem_nil,or_false]at hv;rcases hv with rfl|rfl|rfl|rfl<;>rfl
 ·intro nb v hv;simp only[gl,List.mem_cons,List.not_mem_nil,or_false]at hv;rcases hv with rfl|rfl|rfl|rfl<;>rfl
theorem Wd{B0:Nat}{w0 W:World}{ι ι':Ren}{ss ex:List BH}(hs:Go.DI.St B0 w0 ι' (mS gl (ss++ex)) W)(hok:∀s∈ss,okB s/\seenB (1+ss.length) s)(he:∀b,b<1+ss.length->ι' b=ι b)(hf:∀b,1+ss.length<=b->ι b=none):Go.DI.St B0 w0 ι (mS gl ss) W:=by
 have h:=hs.cut (z:=1+ss.length) (by rw[K7,List.length_append];omega) (by omega) (mz:=mS gl ss) (K7 ss) (DY ss) (λb hb=>?_) (λb hb=>?_)
 ·rw[bt hf he]at h;exact h
 ·rw[DB,DB];by_cases h0:b<1
  ·rw[if_pos h0,if_pos h0]
  ·rw[if_neg h0,if_neg h0,List.getElem?_append_left (by omega)]
 ·rw[DB];by_cases h0:b<1
  ·obtain rfl:b=0:=by omega
   rw[if_pos h0,mG_get];exact⟨nI.1,nI.2 _⟩
  ·rw[if_neg h0];have hb':b - 1<ss.length:=by omega
   rw[List.getElem?_append_left hb',List.getElem?_eq_getElem hb'];exact hok _ (List.getElem_mem hb')
theorem Ca{c:List Value}(o:Bool)(h:c.all EA=true)(nb:Nat):okB (.cells o c)/\seenB nb (.cells o c):=⟨λv hv=>Ev (List.all_eq_true.1 h v hv),λv hv=>Di (List.all_eq_true.1 h v hv)⟩
theorem Mh{v:Value}{nb:Nat}(h1:fG v=true)(h2:Go.DI.Kit.seenV nb v=true):okB (.cells true [v])/\seenB nb (.cells true [v]):=⟨λu hu=>by obtain rfl:=List.mem_singleton.1 hu;exact h1,λu hu=>by obtain rfl:=List.mem_singleton.1 hu;exact h2⟩
theorem We(n nb:Nat)(h:2<=nb):okB (MM n)/\seenB nb (MM n):=by
 constructor
 ·intro u hu;have hu:u∈ [Value.slice none 0 0,A6 1 n]:=hu;simp only[List.mem_cons,List.not_mem_nil,or_false]at hu;rcases hu with rfl|rfl<;>rfl
 ·intro u hu;have hu:u∈ [Value.slice none 0 0,A6 1 n]:=hu;simp only[List.mem_cons,List.not_mem_nil,or_false]at hu;rcases hu with rfl|rfl
  ·rfl
  ·show Nat.blt 1 nb=true;simp[Nat.blt_eq];omega
def tL(l:List Bb)(a c:Int):List BH:= [.cells false (AE l),MM l.length,cI 0,cI 0,cI a,cI c, .cells true [A6 1 l.length]]
def qV(l:List Bb)(a c:Int):List BH:= [.cells false (AE l),MM l.length,cI 0,cI 0,cI a,cI c, .cells true [A6 1 l.length], .cells true (AW (A5 l) l.length), .cells true [qQ (AW (A5 l) l.length).length], .cells true [A6 1 l.length]]
theorem qW(l:List Bb)(a c:Int):∀s∈tL l a c,okB s/\seenB (1+(tL l a c).length) s:=by
 intro s hs
 simp only[tL,List.mem_cons,List.not_mem_nil,or_false]at hs
 rcases hs with rfl|rfl|rfl|rfl|rfl|rfl|rfl
 ·exact Ca _ (BT l) _
 ·exact We _ _ (by show 2<=8;decide)
 ·exact Ca _ rfl _
 ·exact Ca _ rfl _
 ·exact Ca _ rfl _
 ·exact Ca _ rfl _
 ·exact Mh rfl rfl
theorem qX(l:List Bb)(a c:Int):∀s∈qV l a c,okB s/\seenB (1+(qV l a c).length) s:=by
 intro s hs
 simp only[qV,List.mem_cons,List.not_mem_nil,or_false]at hs
 rcases hs with rfl|rfl|rfl|rfl|rfl|rfl|rfl|rfl|rfl|rfl
 ·exact Ca _ (BT l) _
 ·exact We _ _ (by show 2<=11;decide)
 ·exact Ca _ rfl _
 ·exact Ca _ rfl _
 ·exact Ca _ rfl _
 ·exact Ca _ rfl _
 ·exact Mh rfl rfl
 ·exact cA _ _ _
 ·exact Mh rfl rfl
 ·exact Mh rfl rfl
theorem L5(l:List Bb)(a c:Int):∀s∈tL l a c,∃o c,s= .cells o c:=by
 intro s hs
 simp only[tL,List.mem_cons,List.not_mem_nil,or_false]at hs
 rcases hs with rfl|rfl|rfl|rfl|rfl|rfl|rfl<;>exact⟨_,_,rfl⟩
theorem Ea(l:List Bb)(a c:Int):∀s∈qV l a c,∃o c,s= .cells o c:=by
 intro s hs
 simp only[qV,List.mem_cons,List.not_mem_nil,or_false]at hs
 rcases hs with rfl|rfl|rfl|rfl|rfl|rfl|rfl|rfl|rfl|rfl<;>exact⟨_,_,rfl⟩
def Wf{l:List Bb}(pre:List (Pl l)):Int:=match pre.getLast? with|some x=>(x.1:Int)|none=>0
def Wg{l:List Bb}(pre:List (Pl l)):Int:=match pre.getLast? with|some x=>K8 l x.1|none=>0
theorem U2{l:List Bb}(pre:List (Pl l))(x:Pl l):Wf (pre++ [x])=(x.1:Int):=by unfold Wf;rw[List.getLast?_append];rfl
theorem OG{l:List Bb}(pre:List (Pl l))(x:Pl l):Wg (pre++ [x])=K8 l x.1:=by unfold Wg;rw[List.getLast?_append];rfl
theorem qY{n:Nat}(h:0<n):yl n:=by unfold yl;simp[BY,BX,B1];omega
theorem cB{a b:Int}(h:a<=b):wL a b:=by unfold wL;simp[BY,BX,B1];omega
theorem Wh{a b:Int}(h:a≠b):fI a b true:=by unfold fI;simp[BY,BX,B1];omega
theorem nJ{a b:Int}(h:a=b):fI a b false:=by unfold fI;simp[BY,BX,B1];omega
theorem OH(c op z:Int)(w r:Bool):(Wv c op z w r).all GQ=true:=rfl
theorem uf{l:List Bb}{own:Bool}{M:Mem}{p:Int}{w:List Value}(ht:M.top)(h0:M.get 0= .cells false gl)(h1:1<M.size)(gc:M.get 1= .cells own (AE l))(h:PZ own (AE l) l.length p w)(hw:w.all GQ=true):oC l 68 [Eu (A6 1 l.length), .int .i64 p] M=some (Sa w,M):=
 Ns (qZ ht h0 (by omega) h1 (by decide) gc h hw)
theorem nK{l:List Bb}{M:Mem}{x:Bb}{w:List Value}(ht:M.top)(h0:M.get 0= .cells false gl)(h1:1<=M.size)(h:P0 x w)(hw:w.all GQ=true):oC l 47 [.agg ⟨AV x⟩] M=some (Sa w,M):=
 Ns (q9 ht h0 h1 h hw)
theorem ug{l:List Bb}{own:Bool}{M:Mem}(ht:M.top)(h0:M.get 0= .cells false gl)(h1:1<M.size)(gc:M.get 1= .cells own (AE l)):oC l 69 [A6 1 l.length] M=some (.slice (some ⟨M.size,0,none⟩) l.length l.length,M.push (.cells true (AW (A5 l) l.length))):=by
 unfold oC
 rw[Gt (Mg (by decide) (by decide) (by decide) _ _)]
 exact if_pos ⟨rfl,rfl,⟨own,gc⟩,Wi ht h0 (by omega) h1 (by decide) gc⟩
def zq:Oper:={dst:=some 8,op:= .assign (.tmp 48),type:=3,pos:= "shape.go:94",after:= #[],guard:=none}
def zr:Oper:={dst:=some 12,op:= .assign (.tmp 68),type:=3,pos:= "shape.go:102",after:= #[],guard:=none}
theorem qa:Ht 13= #[zq]:=by kernel_rfl
theorem qb:Ht 20= #[zr]:=by kernel_rfl
theorem U3(l:List Bb)(a c:Int):(Qa (AE l) l.length a c).get 0= .cells false gl/\(Qa (AE l) l.length a c).get 1= .cells false (AE l)/\(Qa (AE l) l.length a c).get 7= .cells true [A6 1 l.length]/\(Qa (AE l) l.length a c).size=8:=⟨by kernel_rfl,by kernel_rfl,by kernel_rfl,by kernel_rfl⟩
theorem cC(l:List Bb)(a c:Int)(y:List Value):(Km (AE l) l.length a c y).get 0= .cells false gl/\(Km (AE l) l.length a c y).get 1= .cells false (AE l)/\(Km (AE l) l.length a c y).get 10= .cells true [A6 1 l.length]/\(Km (AE l) l.length a c y).size=11:=⟨by kernel_rfl,by kernel_rfl,by kernel_rfl,by kernel_rfl⟩
section
variable{B0:Nat}{w0 W:World}{ι:Ren}{l:List Bb}{x1:Nat->Value}{a1:Act}
theorem yo(hS:D7 l)(x:Pl l){k d:Nat}{a c:Int}(hs:Go.DI.St B0 w0 ι (Qa (AE l) l.length a c) W) (ht:Bg ι 116 (AB 116 (up x1 (MN++ [(8, .int .i64 (x.1:Int))]))) a1) {Q:Exit->Act->World->Prop} (hx:¬LetsOut Q)
  (hQ:∀a' W',FD W W'->Go.DI.St B0 w0 ι (Qa (AE l) l.length (x.1:Int) (K8 l x.1)) W'->Q .normal a' W'):bw.wpIn (FR k) d Tryz.prog Q a1 W:=by
 obtain⟨g0,g1,_,gz⟩:=U3 l a c
 obtain⟨op,z,w,r,hal⟩:=qU hS x.2
 have hrun:=ym x1 (oC l) (AE l) l.length a c (x.1:Int) (K8 l x.1) op z w r
 refine GS Bw hK Ee (HV hS B0) FL HW FM (by kernel_rfl) hrun.1 hrun.2 (AA (uf (DY _) g0 (by rw[gz];decide) g1 hal (OH ..)) AN) hs (DE (L5 l a c)) ht hx λι5 a5 W5 t5 hs5 ht5 hv5 hd5 hk5 hkp5=>?_
 exact hQ a5 W5 hkp5 (Wd (ss:=tL l (x.1:Int) (K8 l x.1)) (ex:= [.cells true (Wv (K8 l x.1) op z w r)]) hs5 (qW l _ _) (λb hb=>hk5 b (by rw[gz];exact hb)) (λb hb=>hs.fresh b (by rw[gz];exact hb)))
theorem yp(hS:D7 l)(x:Pl l){k d:Nat}{a c:Int} (hs:Go.DI.St B0 w0 ι (Km (AE l) l.length a c (AW (A5 l) l.length)) W) (ht:Bg ι 116 (AB 116 (up x1 (MN++ [(11,Bc 9 0),(12, .int .i64 (x.1:Int))]))) a1) {Q:Exit->Act->World->Prop} (hx:¬LetsOut Q)
  (hQ:∀a' W',FD W W'->Go.DI.St B0 w0 ι (Km (AE l) l.length a c (AW (A5 l) l.length)) W'->Q .normal a' W'):PX.wpIn (FR k) d Tryz.prog Q a1 W:=by
 obtain⟨g0,g1,_,gz⟩:=cC l a c (AW (A5 l) l.length)
 have hm:=hS.most
 have hfin:∀(ex:List BH) (ι5:Ren) (a5:Act) (W5:World),Go.DI.St B0 w0 ι5 (mS gl (qV l a c++ex)) W5->(∀b,b< (Km (AE l) l.length a c (AW (A5 l) l.length)).size->ι5 b=ι b)->FD W W5->Q .normal a5 W5:=λex ι5 a5 W5 hs5 hk5 hkp5=>
  hQ a5 W5 hkp5 (Wd (ss:=qV l a c) (ex:=ex) hs5 (qX l _ _) (λb hb=>hk5 b (by rw[gz];exact hb)) (λb hb=>hs.fresh b (by rw[gz];exact hb)))
 have nojump:∀(y:Bb) (cl op z:Int) (w r:Bool),l[x.1]?=some y->P0 y (Wv cl op z w r)->cl≠6->cl≠7->PX.wpIn (FR k) d Tryz.prog Q a1 W:=λy cl op z w r h1 hof n6 n7=>by
  have hrun:=ua x1 (oC l) (AE l) (AV y) (AW (A5 l) l.length) l.length a c (x.1:Int) cl op z w r;exact GS Bw hK Ee (HV hS B0) FL HW FM (by kernel_rfl) hrun.1 hrun.2 (AA (Cf h1) (AA (Cg h1) (AA (nK (DY _) g0 (by rw[gz];decide) hof (OH ..)) (AA (Wh n6) (AA (Wh n7) AN))))) hs (DE (Ea l a c)) ht hx λι5 a5 W5 t5 hs5 ht5 hv5 hd5 hk5 hkp5=>hfin [.cells true (Wv cl op z w r)] ι5 a5 W5 hs5 hk5 hkp5
 rcases hS.found x.1 x.2 with⟨y,hy,h1⟩|⟨y,o,q,hq,hy,h1,ho1,ho2,hqe⟩|⟨n,h1,h2⟩
 ·obtain⟨op,z,w,r,hf,n6,n7⟩:=nF hy;exact nojump y _ op z w r h1 hf.of n6 n7
 ·obtain⟨op,z,w,r,hf,h67⟩:=nH (o:=o) hy;have hql:q<l.length:=JC hq;have hpl:x.1<l.length:=JC x.2
  have ht0:WT (x.1:Int) o=(q:Int):=by
   unfold WT;have e1:IntKind.wrap .i64 (Int.add (x.1:Int) 1)=((x.1+1:Nat):Int):=U4 (by omega);have e2:IntKind.wrap .i64 o=o:=wrap_i64 ⟨by omega,by omega⟩;rw[e1,e2]
   have e3:Int.add ((x.1+1:Nat):Int) o=(q:Int):=by
    show((x.1+1:Nat):Int)+o=q;omega
   rw[e3];exact wrap_i64 ⟨by omega,by omega⟩
  have hy':AV (BJ y o)=K6 (BJ y o).op (BJ y o).dst (BJ y o).src o (BJ y o).imm:=rfl;have hixp:=Cf h1;have hldp:=Cg h1;have hofr:P0 (BJ y o) (Wv (C1 (BJ y o).op) op z w r):=hf.of;have hcall:=nK (l:=l) (M:=Km (AE l) l.length a c (AW (A5 l) l.length)) (DY _) g0 (by rw[gz];decide) hofr (OH ..);rw[hy']at hldp hcall;have hlen:(AW (A5 l) l.length).length=l.length:=Gb _ _
  have tail:∀q'∈ [I3 (x.1:Int) l.length,Jm (AE l) (x.1:Int) (K6 (BJ y o).op (BJ y o).dst (BJ y o).src o (BJ y o).imm),wM (WT (x.1:Int) o),wN (WT (x.1:Int) o) (AW (A5 l) l.length).length,I3 (WT (x.1:Int) o) (AW (A5 l) l.length).length,qB (AW (A5 l) l.length) (WT (x.1:Int) o)],q':=by
   refine AA hixp (AA hldp (AA ?_ (AA ?_ (AA ?_ (AA ?_ AN)))))
   ·rw[ht0];unfold wM;simp[BY,BX,B1] <;>omega
   ·rw[ht0,hlen];unfold wN;simp[BY,BX,B1] <;>omega
   ·rw[ht0,hlen];exact⟨by omega,by omega⟩
   ·rw[ht0];show H.blkNth (.cells true (AW (A5 l) l.length)) (Nat.add 0 (Nat.mul (q:Int).toNat 1))=some (.bool true)
    have e:Nat.add 0 (Nat.mul (q:Int).toNat 1)=q:=by
     show 0+(q:Int).toNat*1=q;simp
    rw[e];show(AW (A5 l) l.length)[q]?=_;rw[Gc,if_pos hql];simp[hq]
  rcases h67 with h6|h7
  ·have hrun:=ud x1 (oC l) (AE l) (AW (A5 l) l.length) l.length a c (x.1:Int) (C1 (BJ y o).op) op z (BJ y o).op (BJ y o).dst (BJ y o).src o (BJ y o).imm w r;exact GS Bw hK Ee (HV hS B0) FL HW FM (by kernel_rfl) hrun.1 hrun.2 (AA hixp (AA hldp (AA hcall (AA (nJ h6) tail)))) hs (DE (Ea l a c)) ht hx λι5 a5 W5 t5 hs5 ht5 hv5 hd5 hk5 hkp5=>hfin [.cells true (Wv (C1 (BJ y o).op) op z w r), .cells true (K6 (BJ y o).op (BJ y o).dst (BJ y o).src o (BJ y o).imm)] ι5 a5 W5 hs5 hk5 hkp5
  ·have hrun:=ue x1 (oC l) (AE l) (AW (A5 l) l.length) l.length a c (x.1:Int) (C1 (BJ y o).op) op z (BJ y o).op (BJ y o).dst (BJ y o).src o (BJ y o).imm w r;exact GS Bw hK Ee (HV hS B0) FL HW FM (by kernel_rfl) hrun.1 hrun.2 (AA hixp (AA hldp (AA hcall (AA (Wh (by rw[h7];decide)) (AA (nJ h7) tail))))) hs (DE (Ea l a c)) ht hx λι5 a5 W5 t5 hs5 ht5 hv5 hd5 hk5 hkp5=>hfin [.cells true (Wv (C1 (BJ y o).op) op z w r), .cells true (K6 (BJ y o).op (BJ y o).dst (BJ y o).src o (BJ y o).imm)] ι5 a5 W5 hs5 hk5 hkp5
 ·exact nojump _ 10 0 0 false false h1 OF.1 (by decide) (by decide)
end
theorem GH{ss:List BH}(h:ss.all (λb=>match b with| .cells _ _=>true|_=>false)=true):∀s∈ss,∃o c,s=BH.cells o c:=by
 intro s hs
 have:=List.all_eq_true.1 h s hs
 cases s<;>simp at this
 exact⟨_,_,rfl⟩
theorem cD{B0:Nat}{own:Bool}{l:List Bb}(hS:D7 l):EJ Tryz.prog B0 1 45 [Eu (A6 1 l.length)] (mS gl [.cells own (AE l)]) (.tuple ⟨[.int .i64 0, .int .i64 0]⟩) (mS gl [.cells own (AE l)]):=by
 intro ι w args' hr hf hargs
 have hm:=hS.most
 have hpos:0<l.length:=List.length_pos_iff.2 hS.pos
 obtain⟨ι0,hι0⟩:∃ι0,(ι.sub id λi=>Nat.blt i (1+ [BH.cells false (AE l)].length))=ι0:=⟨_,rfl⟩
 have hno:∀b,2<=b->ι0 b=none:=λb hb=>by
  rw[←hι0];show(if Nat.blt b 2=true then ι b else none)=none;rw[if_neg (by simp[Nat.blt_eq];omega)]
 have hr0:Rel B0 1 ι0 (wK (AE l)) w:=by
  rw[←hι0];exact Wj (Sk hr) (λs hs=>by obtain rfl:=List.mem_singleton.1 hs;exact Ca _ (BT l) _)
 have hs0:Go.DI.St B0 w ι0 (wK (AE l)) w:=⟨hr0,λb hb=>hno b hb,Below.refl _ _,λb L hL ho=>by
  exfalso;unfold wK at ho;rw[DB]at ho;split at ho
  ·rename_i h0;obtain rfl:b=0:=by omega
   rw[mG_get]at ho;cases ho
  ·rcases hj:b - 1 with _|j
   ·rw[hj]at ho;cases ho
   ·rw[hj]at ho;have ho:((mG gl).get b).own=true:=ho;rw[mG_top gl b (by rw[mG_size];omega)]at ho;cases ho⟩
 have hargs0:Bd ι0 [Eu (A6 1 l.length)] args':=by
  cases hargs with
  |cons h t=>
   cases t;refine .cons ?_ .nil;have h1:QQ id (λi=>Nat.blt i 2) (Eu (A6 1 l.length)) (Eu (A6 1 l.length)):=KN (.cons ((D9 _ _).sim _ _) (.cons (Da (ρ:=id) (i:=1) rfl) .nil));rw[←hι0];exact h1 ι _ h
 have hst:=LV (nt:=116) hargs0
 have e0:AB 116 (Bq [Eu (A6 1 l.length)])=AB 116 (up (Bq [Eu (A6 1 l.length)]) [(0,Eu (A6 1 l.length))]):=by rw[up_self _ _ (by intro q hq;obtain rfl:=List.mem_singleton.1 hq;rfl)]
 have hst:Bg ι0 116 (AB 116 (up (Bq [Eu (A6 1 l.length)]) [(0,Eu (A6 1 l.length))])) {tmps:=args'.toArray++Array.replicate (Tryz.f45.ntmps - args'.toArray.size) undef,defers:= []}:=by
  rw[←e0];exact hst
 refine(callsIn_wide (n:=1)).1 (callsIn_of_wp_marks yh yi trivial ?_ rfl)
 rw[qP]
 refine wpIn_seq (Db Bw hK Ee (HV hS B0) FL HW FM (u9 _ (oC l) (AE l) l.length).1 (u9 _ (oC l) (AE l) l.length).2 AN hs0 (DE (GH rfl)) hst λι1 a1 W1 t1 hs1 ht1 hv1 hd1 _ hkp1=>?_)
 simp only[Ex.to,Exit.then]
 obtain⟨x1,hx1⟩:=ht1.full _ (G9 hv1)
 refine wpIn_seq (Db Bw hK Ee (HV hS B0) FL HW FM (mv x1 (oC l) (AE l) l.length).1 (mv x1 (oC l) (AE l) l.length).2 (AA (qY hpos) (AA (cB (by show(l.length:Int)<=512;omega)) (AA (cB (by decide)) AN))) hs1 (DE (GH rfl)) hx1 λι2 a2 W2 t2 hs2 ht2 hv2 hd2 _ hkp2=>?_)
 simp only[Ex.to,Exit.then]
 obtain⟨x2,hx2⟩:=ht2.full _ (G9 hv2)
 refine wpIn_seq (Db Bw hK Ee (HV hS B0) FL HW FM (mw x2 (oC l) (AE l) l.length).1 (mw x2 (oC l) (AE l) l.length).2 AN hs2 (DE (GH rfl)) hx2 λι3 a3 W3 t3 hs3 ht3 hv3 hd3 _ hkp3=>?_)
 simp only[Ex.to,Exit.then]
 obtain⟨x3,hx3⟩:=ht3.full _ (G9 hv3)
 refine wpIn_seq (Db Bw hK Ee (HV hS B0) FL HW FM (my x3 (oC l) (AE l) l.length).1 (my x3 (oC l) (AE l) l.length).2 AN hs3 (DE (GH rfl)) hx3 λι4 a4 W4 t4 hs4 ht4 hv4 hd4 _ hkp4=>?_)
 simp only[Ex.to,Exit.then]
 obtain⟨x4,hx4⟩:=ht4.full MN (G9 hv4)
 refine wpIn_seq (wpIn_seq (Db Bw hK Ee (HV hS B0) FL HW FM (nB x4 (oC l) (AE l) l.length 0 0).1 (nB x4 (oC l) (AE l) l.length 0 0).2 AN hs4 (DE (GH rfl)) hx4 λι5 a5 W5 t5 hs5 ht5 hv5 hd5 _ hkp5=>?_))
 simp only[Ex.to,Exit.then]
 have hat5:=G9 hv5
 have h47:t5.at 47=Qb 7:=hat5 (47,Qb 7) (by simp[nA])
 have hkn5:∀p∈MN,t5.at p.1=p.2:=λp hp=>hat5 p (by
  simp only[MN,List.mem_cons,List.not_mem_nil,or_false]at hp;rcases hp with rfl|rfl|rfl|rfl|rfl<;>simp[nA])
 obtain⟨Lb,hLb,hfun⟩:=Qd ht5 h47
 have hrel93:∀(a c:Int) (W:World),Go.DI.St B0 w ι5 (Qa (AE l) l.length a c) W->Rel B0 1 (i93 ι5 7) (Hz (AE l) l.length) W:=λa c W h=>by
  obtain⟨g0,g1,g7,gz⟩:=U3 l a c;exact cE h (by rw[gz];decide) (by rw[gz];decide) (by decide) g0 g1 g7
 have hi2:i93 ι5 7 2=some Lb:=by rw[Jo ι5 7 2 (by decide)];exact hLb
 have hsz5:∀p,p<116->p<a5.tmps.size:=λp hp=>by rw[ht5.1];exact hp
 refine wpIn_block (Nv (m0:=Qa (AE l) l.length 0 0) (ι:=ι5) hs5 (Ds:= []) (λD hD=>by simp at hD) (by decide) hfun (enters_of jx (by kernel_rfl) jy) (Jp (hrel93 0 0 W5 hs5) hi2 hS) (λh k=>cF h k) (λW k o o' _ hk hno' _=>cG W k o o' hk hno') (λx=>rfl)
  (λpre=>Qa (AE l) l.length (Wf pre) (Wg pre)) rfl (λpre b hb=>GX (L5 l _ _) b hb)
  (λx=>({tmps:=a5.tmps.setIfInBounds 48 (.int .i64 (x.1:Int)),defers:= []}:Act).put (some 8) (.int .i64 (x.1:Int))) ?_ ?_ (λpre W W' h _=>hrel93 _ _ W' h) ?_)
 ·intro k x W K' hK';rw[qa];refine Jg (op:=zq) (x:= .tmp 48) rfl rfl ?_;have ez:((#[48]:Array Tmp).zip (Sl l x)).foldl (λt (p,v)=>t.setIfInBounds p v) a5.tmps=a5.tmps.setIfInBounds 48 (.int .i64 (x.1:Int)):=by simp[Sl]
  rw[ez]
  have:({tmps:=a5.tmps.setIfInBounds 48 (.int .i64 (x.1:Int)),defers:= []}:Act).eval (.tmp 48)= .int .i64 (x.1:Int):=by
   show(a5.tmps.setIfInBounds 48 (.int .i64 (x.1:Int))).getD 48 undef=_;rw[Dh,if_pos ⟨rfl,hsz5 48 (by decide)⟩]
  rw[this];exact hK'
 ·intro k pre x W Q' hx' hst' hQ'
  have ht6:Bg ι5 116 ((t5.set 48 (.int .i64 (x.1:Int))).set 8 (.int .i64 (x.1:Int))) ((({tmps:=a5.tmps.setIfInBounds 48 (.int .i64 (x.1:Int)),defers:= []}:Act)).put (some 8) (.int .i64 (x.1:Int))):=
   Bg.putD (n:=116) (dst:=some 8) (Bg.setI (N:=116) ht5 (by decide) (.int _ _)) rfl (.int _ _)
  obtain⟨x6,hx6⟩:=ht6.full (MN++ [(8, .int .i64 (x.1:Int))]) (by
   intro q hq;rcases List.mem_append.1 hq with hq|hq
   ·have hne:q.1≠8/\q.1≠48:=by
     simp only[MN,List.mem_cons,List.not_mem_nil,or_false]at hq;rcases hq with rfl|rfl|rfl|rfl|rfl<;>exact⟨by simp,by simp⟩
    rw[AF.at_set_ne _ hne.1,AF.at_set_ne _ hne.2];exact hkn5 q hq
   ·obtain rfl:=List.mem_singleton.1 hq;exact AF.at_set_same _ _ _)
  refine yo hS x hst' hx6 hx' λa' W' hk hst2=>hQ' a' W' hk ?_;rw[U2,OG];exact hst2
 ·intro D1 xs W hD1 hxs hst' hmk;have hxs:xs.map Subtype.val=A5 l:=hxs;obtain⟨init,pz,hl1,hl2⟩:=hS.last
  have hlast:∃a,Wg xs=9/\Wf xs=a:=by
   refine⟨_,?_,rfl⟩;have hxs2:=hxs.trans hl1;have hne:xs≠ []:=by rintro rfl;simp at hxs2
   obtain⟨ys,z,rfl⟩:∃ys z,xs=ys++ [z]:=⟨xs.dropLast,xs.getLast hne,(List.dropLast_concat_getLast hne).symm⟩;rw[OG];rw[List.map_append]at hxs2
   have hz:z.1=pz:=by
    have:=congrArg List.getLast? hxs2;rw[List.getLast?_append,List.getLast?_append]at this;simpa using this
   rw[hz,K9 hl2];rfl
  obtain⟨aa,hc9,haa⟩:=hlast;rw[hc9,haa]at hst';simp only[Exit.inBlock,Exit.then];have ht7:Bg ι5 116 t5 {a5 with defers:={target:= .collected D1,args:= #[]}::a5.defers}:=ht5;obtain⟨x7,hx7⟩:=ht7.full MN hkn5;obtain⟨g30,g31,g37,g3z⟩:=U3 l aa 9;have hylen:(AW (A5 l) l.length).length=l.length:=Gb _ _
  have hst69:oC l 69 [A6 1 l.length] (Qa (AE l) l.length aa 9)=some (qQ (AW (A5 l) l.length).length,(Qa (AE l) l.length aa 9).push (.cells true (AW (A5 l) l.length))):=by
   rw[ug (own:=false) (M:=Qa (AE l) l.length aa 9) (DY _) g30 (by rw[g3z];decide) g31,g3z,hylen];rfl
  refine wpIn_seq (Db Bw hK Ee (HV hS B0) FL HW FM (nC x7 (oC l) (AE l) (AW (A5 l) l.length) l.length aa 9).1 (nC x7 (oC l) (AE l) (AW (A5 l) l.length) l.length aa 9).2 (AA hst69 AN) hst' (DE (L5 l aa 9)) hx7 λι8 a8 W8 t8 hs8 ht8 hv8 hd8 _ hkp8=>?_);simp only[Ex.to,Exit.then];obtain⟨x8,hx8⟩:=ht8.full (MN++ [(11,Bc 9 0)]) (G9 hv8);refine wpIn_seq (wpIn_seq (Db Bw hK Ee (HV hS B0) FL HW FM (nD x8 (oC l) (AE l) (AW (A5 l) l.length) l.length aa 9).1 (nD x8 (oC l) (AE l) (AW (A5 l) l.length) l.length aa 9).2 AN hs8 (DE (GH rfl)) hx8 λι9 a9 W9 t9 hs9 ht9 hv9 hd9 _ hkp9=>?_));simp only[Ex.to,Exit.then];have hat9:=G9 hv9;have h67:t9.at 67=Qb 10:=hat9 (67,Qb 10) (by simp[nA])
  have hkn9:∀p∈MN++ [(11,Bc 9 0)],t9.at p.1=p.2:=λp hp=>hat9 p (by
   simp only[MN,List.cons_append,List.nil_append,List.mem_cons,List.not_mem_nil,or_false]at hp;rcases hp with rfl|rfl|rfl|rfl|rfl|rfl<;>simp[nA])
  obtain⟨Lb9,hLb9,hfun9⟩:=Qd ht9 h67
  have hrel9:∀(W:World),Go.DI.St B0 w ι9 (Km (AE l) l.length aa 9 (AW (A5 l) l.length)) W->Rel B0 1 (i93 ι9 10) (Hz (AE l) l.length) W:=λW h=>by
   obtain⟨g0,g1,g7,gz⟩:=cC l aa 9 (AW (A5 l) l.length);exact cE h (by rw[gz];decide) (by rw[gz];decide) (by decide) g0 g1 g7
  have hi9:i93 ι9 10 2=some Lb9:=by rw[Jo ι9 10 2 (by decide)];exact hLb9
  have hsz9:∀p,p<116->p<a9.tmps.size:=λp hp=>by rw[ht9.1];exact hp
  have hmk9:Marks [D1] W9:=(hmk.keeps hkp8).keeps hkp9
  refine wpIn_block (Nv (m0:=Km (AE l) l.length aa 9 (AW (A5 l) l.length)) (ι:=ι9) hs9 (Ds:= [D1]) hmk9 (by decide) hfun9 (enters_of jx (by kernel_rfl) jy) (Jp (hrel9 W9 hs9) hi9 hS) (λh k=>cF h k) (λW k o o' _ hk hno' _=>cG W k o o' hk hno') (λx=>rfl)
   (λ_=>Km (AE l) l.length aa 9 (AW (A5 l) l.length)) rfl (λpre b hb=>GX (Ea l _ _) b hb)
   (λx=>({tmps:=a9.tmps.setIfInBounds 68 (.int .i64 (x.1:Int)),defers:= []}:Act).put (some 12) (.int .i64 (x.1:Int))) ?_ ?_ (λpre W W' h _=>hrel9 W' h) ?_)
  ·intro k x W K' hK';rw[qb];refine Jg (op:=zr) (x:= .tmp 68) rfl rfl ?_;have ez:((#[68]:Array Tmp).zip (Sl l x)).foldl (λt (p,v)=>t.setIfInBounds p v) a9.tmps=a9.tmps.setIfInBounds 68 (.int .i64 (x.1:Int)):=by simp[Sl]
   rw[ez]
   have:({tmps:=a9.tmps.setIfInBounds 68 (.int .i64 (x.1:Int)),defers:= []}:Act).eval (.tmp 68)= .int .i64 (x.1:Int):=by
    show(a9.tmps.setIfInBounds 68 (.int .i64 (x.1:Int))).getD 68 undef=_;rw[Dh,if_pos ⟨rfl,hsz9 68 (by decide)⟩]
   rw[this];exact hK'
  ·intro k pre x W Q' hx' hst2 hQ'
   have ht6:Bg ι9 116 ((t9.set 68 (.int .i64 (x.1:Int))).set 12 (.int .i64 (x.1:Int))) ((({tmps:=a9.tmps.setIfInBounds 68 (.int .i64 (x.1:Int)),defers:= []}:Act)).put (some 12) (.int .i64 (x.1:Int))):=
    Bg.putD (n:=116) (dst:=some 12) (Bg.setI (N:=116) ht9 (by decide) (.int _ _)) rfl (.int _ _)
   obtain⟨x6,hx6⟩:=ht6.full (MN++ [(11,Bc 9 0),(12, .int .i64 (x.1:Int))]) (by
    intro q hq;have hq:q∈(MN++ [(11,Bc 9 0)])++ [(12, .int .i64 (x.1:Int))]:=by simpa using hq
    rcases List.mem_append.1 hq with hq|hq
    ·have hne:q.1≠12/\q.1≠68:=by
      simp only[MN,List.cons_append,List.nil_append,List.mem_cons,List.not_mem_nil,or_false]at hq;rcases hq with rfl|rfl|rfl|rfl|rfl|rfl<;>exact⟨by simp,by simp⟩
     rw[AF.at_set_ne _ hne.1,AF.at_set_ne _ hne.2];exact hkn9 q hq
    ·obtain rfl:=List.mem_singleton.1 hq;exact AF.at_set_same _ _ _)
   exact yp hS x hst2 hx6 hx' hQ'
  ·intro D2 xs2 W' hD2 _ hst2 hmk2;simp only[Exit.inBlock,Exit.then];have ht10:Bg ι9 116 t9 {a9 with defers:={target:= .collected D2,args:= #[]}::a9.defers}:=ht9;obtain⟨x10,hx10⟩:=ht10.full MN (λp hp=>hkn9 p (List.mem_append_left _ hp));refine wpIn_seq (Db Bw hK Ee (HV hS B0) FL HW FM (ub x10 (oC l) (AE l) (AW (A5 l) l.length) l.length aa).1 (ub x10 (oC l) (AE l) (AW (A5 l) l.length) l.length aa).2 (AA (Wh (by decide)) AN) hst2 (DE (Ea l _ _)) hx10 λι11 a11 W11 t11 hs11 ht11 hv11 hd11 _ hkp11=>?_);simp only[Ex.to,Exit.then];obtain⟨x11,hx11⟩:=ht11.full MN (G9 hv11);refine wpIn_seq (Db Bw hK Ee (HV hS B0) FL HW FM (nE x11 (oC l) (AE l) (AW (A5 l) l.length) l.length aa 9).1 (nE x11 (oC l) (AE l) (AW (A5 l) l.length) l.length aa 9).2 AN hs11 (DE (Ea l _ _)) hx11 λι12 a12 W12 t12 hs12 ht12 hv12 hd12 _ hkp12=>?_);simp only[Ex.to,Exit.then];refine wpIn_ret ?_;have hmk12:Marks [D2,D1] W12:=(hmk2.keeps hkp11).keeps hkp12
   have hde:a12.defers= [{target:= .collected D2,args:= #[]},{target:= .collected D1,args:= #[]}]:=by
    rw[hd12,hd11];show _::a9.defers=_;rw[hd9,hd8];show _::_::a5.defers=_;rw[hd5,hd4,hd3,hd2,hd1]
   have hm2:=hmk12 D2 (by simp);have hm1:=hmk12 D1 (by simp);have hD1lt:D1<W9.heap.size:=(Array.getElem?_eq_some_iff.1 (hmk9 D1 (by simp))).1;have hne:D1≠D2:=by omega
   obtain⟨W13,hW13⟩:∃W13,W12.putObj D2 (.deferred none)=W13:=⟨_,rfl⟩;have hm1':W13.heap[D1]?=some (.deferred (some [])):=by rw[←hW13];exact(World.putObj_heap_other hne).trans hm1
   obtain⟨W14,hW14⟩:∃W14,W13.putObj D1 (.deferred none)=W14:=⟨_,rfl⟩
   have hs13:Go.DI.St B0 w ι12 (Km (AE l) l.length aa 9 (AW (A5 l) l.length)) W13:=by
    rw[←hW13]
    exact hs12.grown (λb hb=>GX (Ea l _ _) b hb) (B:=w.heap.size) (Nat.le_refl _) (grownBy_putObj' W12 D2 _) (λr e=>by
     cases e;exact⟨Nat.le_trans hs9.below.size hD2,_,hm2,rfl⟩)
   have hs14:Go.DI.St B0 w ι12 (Km (AE l) l.length aa 9 (AW (A5 l) l.length)) W14:=by
    rw[←hW14]
    exact hs13.grown (λb hb=>GX (Ea l _ _) b hb) (B:=w.heap.size) (Nat.le_refl _) (grownBy_putObj' W13 D1 _) (λr e=>by
     cases e;exact⟨Nat.le_trans hs5.below.size hD1,_,hm1',rfl⟩)
   obtain⟨x12,hx12⟩:=ht12.full [(2,Bc 3 0),(3,Bc 4 0)] (G9 hv12);have hres:DM Tryz.prog (AB 116 (up x12 [(2,Bc 3 0),(3,Bc 4 0)])) (Km (AE l) l.length aa 9 (AW (A5 l) l.length)) Tryz.f45.results.toList=some [.int .i64 0, .int .i64 0]:=by kernel_rfl
   obtain⟨v',q1,q2⟩:=H9 (P:=Tryz.prog) hs14.rel hx12 hres;show LeavesInM Fence.wide 1 Tryz.prog Tryz.f45 a12.tmps _ a12.defers .returning W12;rw[hde];refine⟨by simp, .inl ⟨D2,W13,rfl,by rw[←hW13];exact run_takeDeferred hm2,by simp, .inl ⟨D1,W14,rfl,by rw[←hW14];exact run_takeDeferred hm1',v',q1,?_⟩⟩⟩;have hb14:Below w.heap.size w W14:=hs14.below;refine⟨v',ι,rfl,?_,PS hr hb14,⟨λ_ _ h=>h,λ_ _=>rfl,hb14.os,hb14.output,hb14.tape,hb14.size,λB hB _=>hb14.block B hB,λb L h1 h2=>by omega,Nat.le_refl _,λb _ h=>h⟩⟩
   have hfree:Free (.tuple ⟨[.int .i64 0, .int .i64 0]⟩):=FF (by
    intro x hx;have hx:x∈ [Value.int .i64 0,Value.int .i64 0]:=hx;simp only[List.mem_cons,List.not_mem_nil,or_false]at hx;rcases hx with rfl|rfl<;>exact CH _ _)
   exact hfree _ _ _ q2
theorem Lx:E3:=by
 intro B0 b own l M gb hS hF
 have hb:=hF.lt b (by simp)
 have hb0:b≠0:=λe=>hF.nz (by rw[e];simp)
 have hA:∀i:Nat,Nat.blt i 2=true->i=0\/i=1:=λi hi=>by
  have:i<2:=by simpa[Nat.blt_eq]using hi
  omega
 have k0:(mS gl [.cells own (AE l)]).get 0= .cells false gl:=by rw[DB,if_pos (by decide),mG_get]
 have k1:(mS gl [.cells own (AE l)]).get 1= .cells own (AE l):=by rw[DB];rfl
 have r0:DH [b] M 0=0:=rfl
 have r1:DH [b] M 1=b:=rfl
 have hren:Gq (DH [b] M) (.cells own (AE l))=M.get b:=by
  rw[gb];show BH.cells own _=_;rw[CW (BT l)]
 refine ax (ρ:=DH [b] M) (A:=λi=>Nat.blt i 2) 1 (λg hg=>⟨hg,by
  obtain rfl:g=0:=by omega
  rfl,by
   obtain rfl:g=0:=by omega
   rfl⟩) (cD (own:=own) hS) ⟨λi hi=>?_,EM.refl _,DY _,hF.top,λi hi=>?_,λi j hi hj _ _ e=>?_,rfl,λi hi=>?_,λi hi=>?_,λ_ _ _=>rfl⟩ (.cons ?_ .nil) ?_
 ·rw[K7];rcases hA i hi with rfl|rfl<;>simp
 ·rcases hA i hi with rfl|rfl
  ·rw[r0];omega
  ·rw[r1];exact hb
 ·rcases hA i hi with rfl|rfl<;>rcases hA j hj with rfl|rfl
  ·rfl
  ·rw[r0,r1]at e;omega
  ·rw[r0,r1]at e;omega
  ·rfl
 ·rcases hA i hi with rfl|rfl
  ·rw[k0,r0,hF.gl0];exact FH CO
  ·rw[k1,r1,←hren];exact bsim_ren (nb:=2) (Ca own (BT l) 2).1 (Ca own (BT l) 2).2
 ·rcases hA i hi with rfl|rfl
  ·rw[k0,r0,hF.gl0];exact N3 CO
  ·rw[k1,r1,←hren];exact PH (nb:=2) (Ca own (BT l) 2).1 (Ca own (BT l) 2).2
 ·exact KN (.cons ((D9 _ _).sim _ _) (.cons (Da (ρ:=DH [b] M) (i:=1) rfl) .nil))
 ·exact(FF (by
   intro x hx;have hx:x∈ [Value.int .i64 0,Value.int .i64 0]:=hx;simp only[List.mem_cons,List.not_mem_nil,or_false]at hx;rcases hx with rfl|rfl<;>exact CH _ _):Free _).embA _ _
end
end Go.Proofs.YtgjflcgmieiafaaGreatDoor
namespace Go.Proofs.YtgjflcgmieiafaaGreatDoor
open Go Go.DI Go.DI.Kit Go.Proofs Go.Cmp
noncomputable section
noncomputable def oL(k:Nat):CX:=λf a M=>
 if f=5\/f=6\/f=7\/f=8 then AL Tryz.prog kp 1 oQ k f a M
 else if f=9 then dR f a M
 else if f=10 then Co Tryz.prog kp 1 Uo 600 f a M
 else if f=11 then Co Tryz.prog kp 1 Ug 600 f a M
 else none
theorem rY(B0:Nat):CU Tryz.prog B0 1 Uo:=Cr Bw hK Ee (rZ B0) XA 20
theorem XB:B9 Uo:=CL XA 20
theorem r6(B0:Nat):CU Tryz.prog B0 1 Ug:=Cr Bw hK Ee (qz B0) Wu 20
theorem XC:B9 Ug:=CL Wu 20
theorem Ts(k:Nat):B9 (oL k):=λf a M v M' h=>by
 unfold oL at h
 split at h
 ·exact Iz NB k _ _ _ _ _ h
 split at h
 ·exact Wz Lx _ _ _ _ _ h
 split at h
 ·exact GD XB 600 _ _ _ _ _ h
 split at h
 ·exact GD XC 600 _ _ _ _ _ h
 ·cases h
theorem uP(k B0:Nat):CU Tryz.prog B0 1 (oL k):=by
 have h1:=Nq (B0:=B0) Bw hK Ee m9 NB k
 have h2:=rU Lx B0
 have h3:=HL Bw hK Ee (rY B0) XB 600
 have h4:=HL Bw hK Ee (r6 B0) XC 600
 refine⟨λf a M v M' h=>(Ts k f a M v M' h).size,λf a M v M' h=>?_,λf a M v M' h=>?_⟩
 all_goals
  unfold oL at h;split at h
  ·first|exact h1.ok _ _ _ _ _ h|exact h1.body _ _ _ _ _ h
  split at h
  ·first|exact h2.ok _ _ _ _ _ h|exact h2.body _ _ _ _ _ h
  split at h
  ·first|exact h3.ok _ _ _ _ _ h|exact h3.body _ _ _ _ _ h
  split at h
  ·first|exact h4.ok _ _ _ _ _ h|exact h4.body _ _ _ _ _ h
  ·cases h
theorem r7{k:Nat}{f:FuncId}(h5:f≠5)(h6:f≠6)(h7:f≠7)(h8:f≠8)(h9:f≠9)(TR:f≠10)(h11:f≠11)(a:List Value)(M:Mem):oL k f a M=none:=by
 unfold oL
 rw[if_neg (by rintro(e|e|e|e)<;>contradiction),if_neg h9,if_neg TR,if_neg h11]
theorem ku{k:Nat}{f:FuncId}(h:f=5\/f=6\/f=7\/f=8)(a:List Value)(M:Mem):oL k f a M=AL Tryz.prog kp 1 oQ k f a M:=if_pos h
theorem zF{k:Nat}(a:List Value)(M:Mem):oL k 9 a M=dR 9 a M:=(if_neg (by decide)).trans (if_pos rfl)
theorem v3{k:Nat}(a:List Value)(M:Mem):oL k 10 a M=Co Tryz.prog kp 1 Uo 600 10 a M:=(if_neg (by decide)).trans ((if_neg (by decide)).trans (if_pos rfl))
theorem v5{k:Nat}(a:List Value)(M:Mem):oL k 11 a M=Co Tryz.prog kp 1 Ug 600 11 a M:=(if_neg (by decide)).trans ((if_neg (by decide)).trans ((if_neg (by decide)).trans (if_pos rfl)))
theorem GY{M:Mem}{j:Nat}(h:j<M.size):Bo M j=some (M.get j):=if_pos h
theorem Up{M M':Mem}(h:Hp M' (Bo M) []):Ext M M':=by
 obtain⟨ht,hK,_⟩:=h
 refine⟨?_,λj hj=>(hK j _ (GY hj)).2,λ_=>ht⟩
 rcases Nat.eq_zero_or_pos M.size with h0|h0
 ·omega
 ·have:=(hK (M.size - 1) _ (GY (by omega))).1;omega
theorem v7{M M':Mem}{K':CR}(h:Hp M' K' [])(hw:∀j x,Bo M j=some x->K' j=some x):Ext M M':=Up (h.weak hw)
structure fM(M:Mem):Prop where
 top:M.top
 pos:1<=M.size
 gl0:M.get 0= .cells false gl
theorem fM.ext{M M':Mem}(h:fM M)(x:Ext M M'):fM M':=⟨x.top h.top,Nat.le_trans h.pos x.size,(x.get 0 h.pos).trans h.gl0⟩
structure oF(rs:List BB)(k:Nat):Prop where
 rng:Gz rs
 ver:∀r∈rs,0<=r.verdict/\r.verdict<4294967296
 len:rs.length*32<=140737488355328
 tst:∀r∈rs,r.tests.length*56<=140737488355328
 k1:100000+200<=k
 k2:rs.length+100<=k
 k3:∀r∈rs,r.tests.length+100<=k
section
variable{M:Mem}{k:Nat}{rs:List BB}{v:Value}
theorem dU(h:fM M)(hk:1<=k):∃M',oL k 5 [] M=some (.bool true,M')/\Ext M M':=by
 obtain⟨M',h1,h2⟩:=oh k M hk h.top h.pos h.gl0
 exact⟨M',(ku (by decide) _ _).trans h1,h2⟩
theorem kv(h:fM M)(hT:oF rs k)(hv:DD (Bo M) v rs):∃M',oL k 6 [v] M=some (.bool (decide (5000<Ju rs)),M')/\Ext M M':=by
 obtain⟨M',h1,h2⟩:=fp gZ hT.k2 hT.len hv (Hp.all h.top)
 exact⟨M',(ku (by decide) _ _).trans h1,Up h2⟩
theorem XD(h:fM M)(hT:oF rs k)(hv:DD (Bo M) v rs):∃v' M',oL k 8 [v] M=some (v',M')/\Ext M M'/\DD (Bo M') v' rs:=by
 obtain⟨K',v',M',h1,h2,h3,h4⟩:=iP gZ hT.k2 hT.k3 hT.len hT.tst hv (Hp.all h.top)
 refine⟨v',M',(ku (by decide) _ _).trans h1,v7 h3 h2,h4.mono λj x hj=>?_⟩
 obtain⟨_,hK,_⟩:=h3
 have:=hK j x hj
 rw[GY this.1,this.2]
theorem ky(h:fM M)(hT:oF rs k)(hv:DD (Bo M) v rs):∃cv M',oL k 7 [v] M=some (.tuple ⟨[.agg ⟨[.slice none 0 0,cv]⟩, .int .i64 (JE rs)]⟩,M')/\Ext M M'/\Gj M' (Bo M) (GI rs) cv:=by
 obtain⟨cv,M',h1,h2,h3,_⟩:=fh gZ hT.k1 hT.rng hv (Hp.all h.top) (by rw[GY h.pos,h.gl0])
 exact⟨cv,M',(ku (by decide) _ _).trans h1,Up h2,h3⟩
end
theorem dV(rs:List BA):(Bh rs).length=B6 rs:=by
 unfold Bh
 exact CG _ _ _
theorem Sx{rs:List BB}(h:JE rs=0):(FE rs).2=0/\(Bh (BU rs)).length<=512/\GI rs=Bh (BU rs):=by
 have h0:=h
 unfold JE at h
 split at h
 ·rename_i hc;split at h
  ·cases h
  ·exact⟨hc,by omega,if_pos h0⟩
 ·rename_i hc;exact absurd h hc
theorem r9{rs:List BB}(h:JE rs≠0):GI rs= []:=if_neg h
theorem dW{rs:List BB}{k:Nat}(h:JE rs=0)(hT:oF rs k):zD rs/\∀r∈rs,KA r:=by
 obtain⟨h1,h2⟩:=Oi (Sx h).1
 have h3:=H0 rs 0 h2
 refine⟨⟨by omega,λr hr=>⟨by have:=(h3 r hr).1;omega,λt ht=>⟨List.all_eq_true.1 (h3 r hr).2 t ht,hT.rng r hr t ht⟩⟩⟩,λr hr=>⟨λt ht=>testW (List.all_eq_true.1 (h3 r hr).2 t ht) (hT.rng r hr t ht).lo.1,(hT.ver r hr).1,(hT.ver r hr).2⟩⟩
theorem P5{pk:List Int}{port:Int}:∀{rs:List BB},(∀r∈rs,0<=r.verdict/\r.verdict<4294967296)->0<=C5 pk port rs/\C5 pk port rs<4294967296
 | [],_=>by simp[C5]
 |r::rs,h=>by
  rw[C5];split
  ·exact h r (List.mem_cons_self ..)
  ·exact P5 λx hx=>h x (List.mem_cons_of_mem _ hx)
theorem re{rs:List BB}{k:Nat}{pk:List Int}{port:Int}(h:JE rs=0)(hT:oF rs k)(hb:∀b∈pk,0<=b/\b<256)(hn:pk.length<=65535)(hp:0<=port/\port<4294967296):Ly (GI rs) pk port (C5 pk port rs):=by
 obtain⟨hc,hl,ho⟩:=Sx h
 obtain⟨hF,hW⟩:=dW h hT
 have hbd:B6 (BU rs)<=20000:=by rw[←dV];omega
 obtain⟨pc,n,r',h1,h2,h3,h4⟩:=RL (port:=port) hW hbd hb hp.1
 rw[ho]
 refine⟨⟨?_,hl,R6 hW hbd,Tl hW⟩,hb,hn,hp,pc,n,r',h1,h2,h3,h4⟩
 rintro e
 rw[e]at h2
 simp at h2
noncomputable def c4:Code:=AP Tryz.f4
structure dY where
 lg:Bool:=false
 gt:Bool:=false
 ne:Bool:=false
 v:Value:=undef
 pv:Value:=undef
 port:Int:=0
 v8:Value:=undef
 cv:Value:=undef
 e:Int:=0
 jn:Int:=0
 jb:Bool:=true
 rv:Int:=0
 ri:Int:=0
 M5:Mem
 M6:Mem
 M8:Mem
 M7:Mem
 M11:Mem
noncomputable def MQ(cv:Value):List Value:= [.slice none 0 0,cv]
noncomputable def tP(d:dY)(o:CX):H.Hint where
 ix _:=false
 ld _ t _:=cond (Nat.beq t 22) (some d.v) (cond (Nat.beq t 23) (some d.pv) (cond (Nat.beq t 24) (some (.int .u32 d.port)) (cond (Nat.beq t 32) (some (.agg ⟨MQ d.cv⟩)) (cond (Nat.beq t 30) (some d.cv) none))))
 cmp op t:=cond (Nat.beq t 3) (BinOp.rec (motive:=λ_=>Option Bool) none none none none none none none none none none none none none none none (some d.gt) none op)
  (cond (Nat.beq t 33) (BinOp.rec (motive:=λ_=>Option Bool) none none none none none none none none none none none none (some d.ne) none none none none op)
  (cond (Nat.beq t 38) (BinOp.rec (motive:=λ_=>Option Bool) none none none none none none none none none none none (some true) none none none none none op)
  (cond (Nat.beq t 24) (BinOp.rec (motive:=λ_=>Option Bool) none none none none none none none none none none none (some true) none none none none none op) none)))
 ap _:=none
 call f:=cond (Nat.beq f 5) (some (.bool true)) (cond (Nat.beq f 6) (some (.bool d.lg)) (cond (Nat.beq f 8) (some d.v8) (cond (Nat.beq f 7) (some (.tuple ⟨[.agg ⟨MQ d.cv⟩, .int .i64 d.e]⟩))
  (cond (Nat.beq f 9) (some (.tuple ⟨[.int .u64 d.jn, .bool d.jb]⟩)) (cond (Nat.beq f 10) (some (.tuple ⟨[.int .u32 d.rv, .int .i64 d.ri]⟩)) (cond (Nat.beq f 11) (some (.tuple ⟨[.int .u32 d.rv, .int .i64 d.ri]⟩)) none))))))
 spec _ _ _ _:=False
 blk:=0
 eff f m:=cond (Nat.beq f 5) d.M5 (cond (Nat.beq f 6) d.M6 (cond (Nat.beq f 8) d.M8 (cond (Nat.beq f 7) d.M7 (cond (Nat.beq f 11) d.M11 m))))
 specM f:=some λargs m v=>o f args m=some (v,cond (Nat.beq f 5) d.M5 (cond (Nat.beq f 6) d.M6 (cond (Nat.beq f 8) d.M8 (cond (Nat.beq f 7) d.M7 (cond (Nat.beq f 11) d.M11 m)))))
 st t _:=cond (Nat.beq t 32) (some (.cells true (MQ d.cv))) none
noncomputable def ZF(v pv:Value)(port:Int):List Value:= [v,pv, .int .u32 port]
noncomputable def zw:List Nat:= [1,3,4]
noncomputable def kz(d:dY)(o:CX)(k:Nat)(ds:List Nat)(v pv:Value)(port:Int)(m:Mem):=Hy (tP d o) Tryz.prog kp k (Dl ((items c4).take 8)) 77 ds (AB 77 (Bq [.agg ⟨ZF v pv port⟩])) m
noncomputable def lA(m:Mem)(v pv:Value)(port:Int):Mem:=m.push (.cells true (ZF v pv port))
noncomputable def zI:List Value:= [.slice none 0 0, .slice none 0 0]
noncomputable def tQ(M7:Mem)(cv:Value):Mem:=(M7.push (.cells true zI)).set M7.size (.cells true (MQ cv))
noncomputable def fN(M:Mem)(z:Nat)(v:Value):Prop:=H.ldOk (M.get z) 0 false 1 v
noncomputable def Kd(M:Mem)(z j:Nat)(v:Value):Prop:=H.ldOk (M.get z) (Nat.add 0 j) false 1 v
noncomputable def rh(np:Nat)(b:Bool):Prop:=BY Tryz.prog kp .gtr 3 (.int .i64 (Int.ofNat np)) (.int .i64 65535)=some (.bool b)
noncomputable def tR(e:Int)(b:Bool):Prop:=BY Tryz.prog kp .neq 33 (.int .i64 e) (.int .i64 0)=some (.bool b)
noncomputable def zG(M7:Mem)(cv:Value):Prop:=H.stOk Tryz.prog ((M7.push (.cells true zI)).get M7.size) 32 0 (.agg ⟨MQ cv⟩) (.cells true (MQ cv))
section
variable(k:Nat)(x:Nat->Value)(o:CX)(ra pa ca:Option Addr)(rn rc np pc cn cc:Nat)(v8:Value)(port jn rv ri e:Int)(m M M5 M6 M8 M7 M11:Mem)
theorem rj:
  Rn (kz {lg:=true,v:= .slice ra rn rc,pv:= .slice pa np pc,port:=port,M5:=M5,M6:=M6,M8:=M8,M7:=M7,M11:=M11} o k [2] (.slice ra rn rc) (.slice pa np pc) port m) ((.ret,[.bool true],M6),[o 5 [] (lA m (.slice ra rn rc) (.slice pa np pc) port)=some (.bool true,M5),fN M5 m.size (.slice ra rn rc),o 6 [.slice ra rn rc] M5=some (.bool true,M6)]):=⟨by kernel_rfl,by kernel_rfl⟩
theorem rk:
  Rn (kz {gt:=true,v:= .slice ra rn rc,pv:= .slice pa np pc,port:=port,M5:=M5,M6:=M6,M8:=M8,M7:=M7,M11:=M11} o k [2] (.slice ra rn rc) (.slice pa np pc) port m) ((.ret,[.bool true],M6),[o 5 [] (lA m (.slice ra rn rc) (.slice pa np pc) port)=some (.bool true,M5),fN M5 m.size (.slice ra rn rc),o 6 [.slice ra rn rc] M5=some (.bool false,M6),Kd M6 m.size 1 (.slice pa np pc),rh np true]):=⟨by kernel_rfl,by kernel_rfl⟩
theorem rm:
  Rn (kz {ne:=true,v:= .slice ra rn rc,pv:= .slice pa np pc,port:=port,v8:=v8,cv:= .slice ca 0 0,e:=e,M5:=M5,M6:=M6,M8:=M8,M7:=M7,M11:=M11} o k [2] (.slice ra rn rc) (.slice pa np pc) port m) ((.ret,[.bool true],tQ M7 (.slice ca 0 0)),[o 5 [] (lA m (.slice ra rn rc) (.slice pa np pc) port)=some (.bool true,M5),fN M5 m.size (.slice ra rn rc),o 6 [.slice ra rn rc] M5=some (.bool false,M6),Kd M6 m.size 1 (.slice pa np pc),rh np false,
    fN M6 m.size (.slice ra rn rc),o 8 [.slice ra rn rc] M6=some (v8,M8),o 7 [v8] M8=some (.tuple ⟨[.agg ⟨MQ (.slice ca 0 0)⟩, .int .i64 e]⟩,M7),zG M7 (.slice ca 0 0),tR e true,Kd (tQ M7 (.slice ca 0 0)) M7.size 1 (.slice ca 0 0)]):=⟨by kernel_rfl,by kernel_rfl⟩
theorem rq:
  Rn (kz {v:= .slice ra rn rc,pv:= .slice pa np pc,port:=port,v8:=v8,cv:= .slice ca cn cc,M5:=M5,M6:=M6,M8:=M8,M7:=M7,M11:=M11} o k zw (.slice ra rn rc) (.slice pa np pc) port m) ((.normal,[Bc m.size 0,Bc M7.size 0, .int .i64 0],tQ M7 (.slice ca cn cc)),[o 5 [] (lA m (.slice ra rn rc) (.slice pa np pc) port)=some (.bool true,M5),fN M5 m.size (.slice ra rn rc),o 6 [.slice ra rn rc] M5=some (.bool false,M6),Kd M6 m.size 1 (.slice pa np pc),rh np false,
    fN M6 m.size (.slice ra rn rc),o 8 [.slice ra rn rc] M6=some (v8,M8),o 7 [v8] M8=some (.tuple ⟨[.agg ⟨MQ (.slice ca cn cc)⟩, .int .i64 0]⟩,M7),zG M7 (.slice ca cn cc),tR 0 false]):=⟨by kernel_rfl,by kernel_rfl⟩
end
noncomputable def zH(d:dY)(o:CX)(k:Nat)(x:Nat->Value)(z y:Nat)(M:Mem):=Hy (tP d o) Tryz.prog kp k (Dl ((items c4).drop 8)) 77 [2] (AB 77 (up x (zw.zip [Bc z 0,Bc y 0, .int .i64 0]))) M
theorem v9(k:Nat)(x:Nat->Value)(o:CX)(ra pa ca r8:Option Addr)(rn rc np pc cn cc n8 c8 z y:Nat)(port jn rv ri:Int)(M M8 M11:Mem):
  Rn (zH {v:= .slice ra rn rc,pv:= .slice pa np pc,port:=port,v8:= .slice r8 n8 c8,cv:= .slice ca cn cc,jn:=jn,rv:=rv,ri:=ri,M5:=M,M6:=M,M8:=M8,M7:=M,M11:=M11} o k x z y M) ((.ret,[.bool true],M11),[H.ldOk (M.get y) 0 true 2 (.agg ⟨MQ (.slice ca cn cc)⟩),Kd M z 1 (.slice pa np pc),Kd M z 2 (.int .u32 port),o 9 [.agg ⟨MQ (.slice ca cn cc)⟩, .slice pa np pc, .int .u32 port] M=some (.tuple ⟨[.int .u64 jn, .bool true]⟩,M),
    fN M z (.slice ra rn rc),Kd M z 1 (.slice pa np pc),Kd M z 2 (.int .u32 port),o 10 [.slice ra rn rc, .slice pa np pc, .int .u32 port] M=some (.tuple ⟨[.int .u32 rv, .int .i64 ri]⟩,M),
    fN M z (.slice ra rn rc),o 8 [.slice ra rn rc] M=some (.slice r8 n8 c8,M8),Kd M8 z 1 (.slice pa np pc),Kd M8 z 2 (.int .u32 port),o 11 [.slice r8 n8 c8, .slice pa np pc, .int .u32 port] M8=some (.tuple ⟨[.int .u32 rv, .int .i64 ri]⟩,M11),
    Kd M z 1 (.slice pa np pc),Kd M z 2 (.int .u32 port),BY Tryz.prog kp .eql 38 (.int .u64 jn) (.int .u64 (IntKind.wrap .u64 rv))=some (.bool true),BY Tryz.prog kp .eql 24 (.int .u32 rv) (.int .u32 rv)=some (.bool true)]):=⟨by kernel_rfl,by kernel_rfl⟩
theorem Sy:Gr 77:=by
 intro x d v hd
 refine⟨up x [(d,v)],?_⟩
 iterate 77 (rcases d with _|d;· kernel_rfl)
 omega
theorem OO{d:dY}{o:CX}(f:FuncId)(v:Value)(args:List Value)(m:Mem)(hc:(tP d o).call f=some v)(hs:(tP d o).says f args m v):o f args m=some (v,(tP d o).eff f m):=hs
theorem Ke{k:Nat}{d:dY}(f:FuncId)(hc:(tP d (oL k)).call f=none)(a:List Value)(m:Mem):oL k f a m=none:=
 r7 (by rintro rfl;cases hc) (by rintro rfl;cases hc) (by rintro rfl;cases hc) (by rintro rfl;cases hc) (by rintro rfl;cases hc) (by rintro rfl;cases hc) (by rintro rfl;cases hc) a m
theorem zJ:Tryz.prog.funcs[4]?=some Tryz.f4:=by kernel_rfl
theorem bd4:Tryz.f4.body=some c4:=by kernel_rfl
theorem nt4:Tryz.f4.ntmps=77:=by kernel_rfl
theorem zK(x:Nat->Value)(a:Value)(M:Mem):DM Tryz.prog (AB 77 (up x [(2,a)])) M Tryz.f4.results.toList=some [a]:=by kernel_rfl
noncomputable abbrev uO(k:Nat):Ed:=CJ Tryz.prog kp 1 (oL k) 20
theorem szI:Bv Tryz.prog 32=some 2:=by kernel_rfl
theorem Lz{M:Mem}{z:Nat}{c:List Value}{v:Value}{own:Bool}(h:M.get z= .cells own c)(hv:c[0]?=some v):fN M z v:=by
 unfold fN;rw[h];exact hv
theorem Fi{M:Mem}{z j:Nat}{c:List Value}{v:Value}{own:Bool}(h:M.get z= .cells own c)(hv:c[j]?=some v):Kd M z j v:=by
 unfold Kd;rw[h]
 show c[Nat.add 0 j]?=_
 rw[show Nat.add 0 j=j from Nat.zero_add j]
 exact hv
theorem dZ{M7:Mem}{a:Option Addr}{n c:Nat}:zG M7 (.slice a n c):=λm b hg=>by
 rw[Mem.get_push_same]at hg
 rw[C4 (n:=2) szI rfl hg (by decide) rfl]
 rfl
theorem zL{np:Nat}(h:65535<np):rh np true:=by unfold rh;simp[BY,BX,B1];omega
theorem va{np:Nat}(h:¬65535<np):rh np false:=by unfold rh;simp[BY,BX,B1];omega
theorem zM{e:Int}(h:e≠0):tR e true:=by unfold tR;simp[BY,BX,B1,h]
theorem zN:tR 0 false:=by unfold tR;simp[BY,BX,B1]
theorem lB(M7:Mem)(cv:Value):Ext M7 (tQ M7 cv):=Ext.fresh
theorem XE(M7:Mem)(cv:Value):(tQ M7 cv).get M7.size= .cells true (MQ cv):=Mem.get_set_same ..
theorem ID.to{M M':Mem}{c:Nat}{pv:Value}{pk:List Int}(h:ID M pv pk)(x:Ext M M')(hc:M.size<=c):vY M' c pv pk:=by
 rcases h with g|⟨k,sp,cap,own,h1,h2,h3,h4,h5,h6⟩
 ·exact .inl g
 ·exact .inr ⟨k,sp,cap,own,h1,Nat.lt_of_lt_of_le h4 x.size,h5,by omega,(x.get k h4).trans h6⟩
theorem fM.srv{M:Mem}{pv:Value}{pk:List Int}(h:fM M)(hp:ID M pv pk):Qn M pv pk:=⟨h.top,h.gl0,h.pos,hp⟩
theorem Rc{m:Mem}{k:Nat}{v pv:Value}{rs:List BB}{pk:List Int}{port:Int}(hm:fM m)(hT:oF rs k)(hv:DD (Bo m) v rs)(hpk:ID m pv pk)(hb:∀b∈pk,0<=b/\b<256)(hp:0<=port/\port<4294967296):
  ∃M',Co Tryz.prog kp 1 (uO k) 600 4 [.agg ⟨ZF v pv port⟩] m=some (.bool true,M'):=by
 obtain⟨ra,rc,rfl,_⟩:=id hv
 obtain⟨pa,pc,hpv,_⟩:=hpk.as
 subst hpv
 have fin:∀{M':Mem} {x':Nat->Value},AJ Tryz.prog kp 1 (uO k) (AY Tryz.prog kp 1 (uO k) 77) 77 600 c4 (AB 77 (Bq [.agg ⟨ZF (.slice ra rs.length rc) (.slice pa pk.length pc) port⟩])) m=some (.ret,AB 77 (up x' [(2, .bool true)]),M')->∃M',Co Tryz.prog kp 1 (uO k) 600 4 [.agg ⟨ZF (.slice ra rs.length rc) (.slice pa pk.length pc) port⟩] m=some (.bool true,M'):=λ{M' x'} h=>
  ⟨M',F9 zJ bd4 (by rw[nt4];rfl) h (zK ..)⟩
 have x0:Ext m (lA m (.slice ra rs.length rc) (.slice pa pk.length pc) port):=Ext.push _ _
 have z0:m.size< (lA m (.slice ra rs.length rc) (.slice pa pk.length pc) port).size:=by show m.size<m.size+1;omega
 have g0:(lA m (.slice ra rs.length rc) (.slice pa pk.length pc) port).get m.size= .cells true (ZF (.slice ra rs.length rc) (.slice pa pk.length pc) port):=Mem.get_push_same ..
 obtain⟨M0,hM0⟩:∃M0,lA m (.slice ra rs.length rc) (.slice pa pk.length pc) port=M0:=⟨_,rfl⟩
 rw[hM0]at x0 z0 g0
 obtain⟨M5,e5,x5⟩:=dU (k:=k) (hm.ext x0) (by have:=hT.k1;omega)
 have t5:=(hm.ext x0).ext x5
 have gb:∀{M:Mem},Ext M0 M->M.get m.size= .cells true (ZF (.slice ra rs.length rc) (.slice pa pk.length pc) port):=λx=>(x.get _ z0).trans g0
 have rv:∀{M:Mem},Ext M0 M->DD (Bo M) (.slice ra rs.length rc) rs:=λx=>hv.mono (I8 (x0.trans x))
 obtain⟨M6,e6,x6⟩:=kv t5 hT (rv x5)
 have t6:=t5.ext x6
 have x06:=x5.trans x6
 have q5:oL k 5 [] (lA m (.slice ra rs.length rc) (.slice pa pk.length pc) port)=some (.bool true,M5):=by rw[hM0];exact e5
 by_cases hlg:5000<Ju rs
 ·rw[decide_eq_true hlg]at e6;obtain⟨q1,q2⟩:=rj 600 (oL k) ra pa rs.length rc pk.length pc port m M5 M6 M6 M6 M6;obtain⟨x1,h1⟩:=BR (x:=Bq [.agg ⟨ZF (.slice ra rs.length rc) (.slice pa pk.length pc) port⟩]) Sy rfl OO Ke q1 q2 (AA q5 (AA (Lz (gb x5) rfl) (AA e6 AN)));exact fin (Dz 8 c4 (by simp) h1)
 rw[decide_eq_false hlg]at e6
 by_cases hgt:65535<pk.length
 ·obtain⟨q1,q2⟩:=rk 600 (oL k) ra pa rs.length rc pk.length pc port m M5 M6 M6 M6 M6;obtain⟨x1,h1⟩:=BR (x:=Bq [.agg ⟨ZF (.slice ra rs.length rc) (.slice pa pk.length pc) port⟩]) Sy rfl OO Ke q1 q2 (AA q5 (AA (Lz (gb x5) rfl) (AA e6 (AA (Fi (gb x06) rfl) (AA (zL hgt) AN)))));exact fin (Dz 8 c4 (by simp) h1)
 have hn:pk.length<=65535:=by omega
 obtain⟨v8,M8,e8,x8,r8⟩:=XD t6 hT (rv x06)
 have t8:=t6.ext x8
 obtain⟨cv,M7,e7,x7,hcv⟩:=ky t8 hT r8
 have t7:=t8.ext x7
 have x07:=(x06.trans x8).trans x7
 obtain⟨ca,rfl,hcode⟩:=hcv
 by_cases he:JE rs=0
 case neg=>
  rw[r9 he]at e7;obtain⟨q1,q2⟩:=rm 600 (oL k) ra pa ca rs.length rc pk.length pc v8 port (JE rs) m M5 M6 M8 M7 M7;obtain⟨x1,h1⟩:=BR (x:=Bq [.agg ⟨ZF (.slice ra rs.length rc) (.slice pa pk.length pc) port⟩]) Sy rfl OO Ke q1 q2 (AA q5 (AA (Lz (gb x5) rfl) (AA e6 (AA (Fi (gb x06) rfl) (AA (va hgt) (AA (Lz (gb x06) rfl) (AA e8 (AA e7 (AA dZ (AA (zM he) (AA (Fi (XE _ _) rfl) AN)))))))))));exact fin (Dz 8 c4 (by simp) h1)
 have hR:=re (pk:=pk) (port:=port) he hT hb hn hp
 obtain⟨hF,_⟩:=dW he hT
 rw[he]at e7
 obtain⟨q1,q2⟩:=rq 600 (oL k) ra pa ca rs.length rc pk.length pc (GI rs).length (GI rs).length v8 port m M5 M6 M8 M7 M7
 obtain⟨x1,h1⟩:=BR (x:=Bq [.agg ⟨ZF (.slice ra rs.length rc) (.slice pa pk.length pc) port⟩]) Sy rfl OO Ke q1 q2 (AA q5 (AA (Lz (gb x5) rfl) (AA e6 (AA (Fi (gb x06) rfl) (AA (va hgt) (AA (Lz (gb x06) rfl) (AA e8 (AA e7 (AA dZ (AA zN AN))))))))))
 obtain⟨c,rfl,c1,c2,c3⟩:=hcode hR.shape.pos
 have xI:=lB M7 (.slice (some ⟨c,0,some 5⟩) (GI rs).length (GI rs).length)
 have gI:=XE M7 (.slice (some ⟨c,0,some 5⟩) (GI rs).length (GI rs).length)
 obtain⟨MI,hMI⟩:∃MI,tQ M7 (.slice (some ⟨c,0,some 5⟩) (GI rs).length (GI rs).length)=MI:=⟨_,rfl⟩
 rw[hMI]at xI gI h1
 have x0I:=x07.trans xI
 have tI:=t7.ext xI
 have hmc:M8.size<=c:=by
  rcases Nat.lt_or_ge c M8.size with h|h
  ·rw[GY h]at c2;cases c2
  ·exact h
 have hm8:m.size<=M8.size:=((x0.trans x06).trans x8).size
 have hc0:c≠0:=by have:=t8.pos;omega
 have pkI:ID MI (.slice pa pk.length pc) pk:=hpk.ext (x0.trans x0I)
 have sI:Qn MI (.slice pa pk.length pc) pk:=tI.srv pkI
 have e9:oL k 9 [.agg ⟨MQ (.slice (some ⟨c,0,some 5⟩) (GI rs).length (GI rs).length)⟩, .slice pa pk.length pc, .int .u32 port] MI=some (.tuple ⟨[.int .u64 (C5 pk port rs), .bool true]⟩,MI):=by
  rw[zF];exact Ye hR tI.top tI.gl0 tI.pos (Nat.lt_of_lt_of_le c1 xI.size) hc0 ((xI.get c c1).trans c3) (hpk.to (x0.trans x0I) (by omega))
 have e10:oL k 10 [.slice ra rs.length rc, .slice pa pk.length pc, .int .u32 port] MI=some (.tuple ⟨[.int .u32 (C5 pk port rs), .int .i64 (Fc pk port rs 0)]⟩,MI):=by
  rw[v3];exact Qq sI hb hn hp hF (rv x0I) (by decide)
 obtain⟨w8,N8,f8,y8,s8⟩:=XD tI hT (rv x0I)
 obtain⟨b8,cc8,rfl,_⟩:=id s8
 obtain⟨N11,y11,e11⟩:=dQ (sI.ext y8) hb hn hp hF s8 (kk:=600) (by decide)
 have e11:oL k 11 [.slice b8 rs.length cc8, .slice pa pk.length pc, .int .u32 port] N8=some (.tuple ⟨[.int .u32 (C5 pk port rs), .int .i64 (Fc pk port rs 0)]⟩,N11):=by
  rw[v5];exact e11
 have hjr:=P5 (pk:=pk) (port:=port) hT.ver
 have gbI:=gb x0I
 have gb8:=gb (x0I.trans y8)
 obtain⟨q1,q2⟩:=v9 600 x1 (oL k) ra pa (some ⟨c,0,some 5⟩) b8 rs.length rc pk.length pc (GI rs).length (GI rs).length rs.length cc8 m.size M7.size port (C5 pk port rs) (C5 pk port rs) (Fc pk port rs 0) MI N8 N11
 obtain⟨x2,h2⟩:=BR Sy rfl OO Ke q1 q2 (AA (by rw[gI];exact Qo rfl) (AA (Fi gbI rfl) (AA (Fi gbI rfl) (AA e9
  (AA (Lz gbI rfl) (AA (Fi gbI rfl) (AA (Fi gbI rfl) (AA e10
  (AA (Lz gbI rfl) (AA f8 (AA (Fi gb8 rfl) (AA (Fi gb8 rfl) (AA e11
  (AA (Fi gbI rfl) (AA (Fi gbI rfl) (AA (by rw[show IntKind.wrap .u64 (C5 pk port rs)=C5 pk port rs from IntWalk.u64_in _ (by omega)];simp[BY,BX,B1]) (AA (by simp[BY,BX,B1]) AN)))))))))))))))))
 exact fin ((HT 8 c4 h1).trans h2)
set_option maxRecDepth 100000
theorem T3{d:Dt}(h:Typed Tryz.prog 7 5 d):∃b:Int,d= .int .u8 b/\0<=b/\b<256:=by
 obtain⟨x,rfl,hw⟩:=EC (n:=6) Tryz.underlying5 h
 simp[Lit.wf]at hw
 have e1:IntKind.u8.min=0:=rfl
 have e2:IntKind.u8.max=255:=rfl
 rw[e1,e2]at hw
 exact⟨x,rfl,by omega,by omega⟩
theorem Li:∀(l:List Dt),(∀x∈l,Typed Tryz.prog 7 5 x)->∃pk:List Int,pk.length=l.length/\(∀b∈pk,0<=b/\b<256)/\∀(m:Mem) (cs:List Value),Ey m l cs->cs=AH pk
 | [],_=>⟨[],rfl,λb hb=>by simp at hb,λm cs h=>h⟩
 |d::l,h=>by
  obtain⟨b,rfl,h1,h2⟩:=T3 (h d (by simp));obtain⟨pk,h3,h4,h5⟩:=Li l λx hx=>h x (by simp[hx]);refine⟨b::pk,by simp[h3],λx hx=>?_,λm cs hc=>?_⟩
  ·rcases List.mem_cons.1 hx with rfl|hx
   ·exact⟨h1,h2⟩
   ·exact h4 x hx
  ·simp only[Ey]at hc;obtain⟨c1,c2,rfl,g1,g2⟩:=hc;simp only[H3]at g1;rw[g1,h5 m c2 g2];rfl
theorem tt:Gk Tryz.prog 26=some true:=by kernel_rfl
theorem tu:Gk Tryz.prog 22=some false:=by kernel_rfl
theorem ZY{pk:List Int}(h:BH.cells false gl= .cells false (AH pk)):False:=by
 have h:=BH.cells.inj h
 have h:gl=AH pk:=h.2
 cases pk with
 |nil=>cases h
 |cons b pk=>
  have:=congrArg List.head? h;cases this
theorem X1{m:Mem}{d:Dt}{v:Value}(h0:m.get 0= .cells false gl)(h:Typed Tryz.prog 9 26 d)(ha:Arg Tryz.prog m 26 d v):
  ∃(d0 d1 d2:Dt) (v0 pv:Value) (pk:List Int) (port:Int),d= .ag [d0,d1,d2]/\v= .agg ⟨ZF v0 pv port⟩/\Typed Tryz.prog 8 22 d0/\Arg Tryz.prog m 22 d0 v0/\
   ID m pv pk/\(∀b∈pk,0<=b/\b<256)/\0<=port/\port<4294967296:=by
 unfold Arg at ha
 rw[tt]at ha
 obtain⟨c,rfl,hc⟩:=ha
 unfold Typed at h
 rw[Tryz.underlying26]at h
 obtain⟨l,rfl,h⟩:=h
 simp only[List.map_cons,List.map_nil]at h
 obtain⟨d0,l,rfl,t0,h⟩:=Cl h
 obtain⟨d1,l,rfl,t1,h⟩:=Cl h
 obtain⟨d2,l,rfl,t2,h⟩:=Cl h
 have hnil:=IC h
 subst hnil
 simp only[H3,Ey]at hc
 obtain⟨c0,c,rfl,r0,c1,c',rfl,r1,c2,c3,rfl,r2,rfl⟩:=hc
 obtain⟨port,rfl,hpw⟩:=EC Tryz.underlying24 t2
 have hpr:0<=port/\port<4294967296:=by
  simp[Lit.wf]at hpw;have e1:IntKind.u32.min=0:=rfl;have e2:IntKind.u32.max=4294967295:=rfl;rw[e1,e2]at hpw;omega
 simp only[H3]at r2
 subst r2
 obtain⟨pv,pk,rfl,hpk,hpb⟩:∃pv pk,c1= [pv]/\ID m pv pk/\∀b∈pk,0<=b/\b<256:=by
  unfold Typed at t1;rw[Tryz.underlying23]at t1;rcases t1 with rfl|⟨l,cap,rfl,hle,_,hl⟩
  ·simp only[H3]at r1;exact⟨_,[],r1, .inl ⟨rfl,rfl⟩,λb hb=>by simp at hb⟩
  ·obtain⟨pk,g1,g2,g3⟩:=Li l hl;simp only[H3]at r1;obtain⟨b,sp,c,q1,q2,q3,q4,q5⟩:=r1;have hcb:=g3 m c q4;subst hcb;refine⟨_,pk,q1, .inr ⟨b,sp,cap,false,by rw[g1],by omega,?_,q2,?_,q3⟩,g2⟩
   ·rcases q5 with q5|⟨q5,_⟩
    ·exact .inl q5
    ·refine .inr (List.length_eq_zero_iff.1 ?_);rw[g1,q5];rfl
   ·rintro rfl;rw[h0]at q3;exact ZY q3
 have key:∃v0,c0= [v0]:=by
  unfold Typed at t0;rw[Tryz.underlying22]at t0;rcases t0 with rfl|⟨l,cap,rfl,hle,_,hl⟩
  ·simp only[H3]at r0;exact⟨_,r0⟩
  ·simp only[H3]at r0;obtain⟨b,sp,c,q1,_⟩:=r0;exact⟨_,q1⟩
 obtain⟨v0,rfl⟩:=key
 exact⟨d0,d1, .int .u32 port,v0,pv,pk,port,rfl,rfl,t0,by unfold Arg;rw[tu];exact r0,hpk,hpb,hpr⟩
theorem OX{H:Type}{d0 d1 d2:Dt}{y:DataW H}(h:JV (.ag [d0,d1,d2]) y)(hw:∀w∈y.weights Tryz.prog 26,w<=reachBytes):(fq d0).length*32<=140737488355328/\∀x∈fq d0,tl x*56<=140737488355328:=by
 cases h with
 | @ag _ parts hl h=>
  match parts,hl with
  | [y0,y1,y2],_=>
   refine RH (h 0 d0 y0 rfl rfl) λw hw0=>hw w ?_;simp only[DataW.weights,Tryz.underlying26,List.map_cons,List.map_nil,DataW.weightsEach];exact List.mem_append_left _ hw0
theorem ZZ{l:List BB}{r:BB}(h:r∈l):r.tests.length<=(l.map λr=>r.tests.length).sum:=by
 induction l with
 |nil=>simp at h
 |cons x l ih=>
  rw[List.map_cons,List.sum_cons];rcases List.mem_cons.1 h with rfl|h
  ·omega
  ·have:=ih h;omega
theorem oD{rs:List BB}{d0:Dt}(hv:∀r∈rs,0<=r.verdict/\r.verdict<4294967296)(hr:Gz rs)(hm:rs.map (λr=>r.tests.length)=(fq d0).map tl)(hw:(fq d0).length*32<=140737488355328/\∀x∈fq d0,tl x*56<=140737488355328){k:Nat}(hk:2000000+rs.length+(rs.map λr=>r.tests.length).sum<=k):oF rs k where
 rng:=hr
 ver:=hv
 len:=by
  have:=congrArg List.length hm;rw[List.length_map,List.length_map]at this;rw[this];exact hw.1
 tst:=λr hr=>by
  have hmem:r.tests.length∈rs.map (λr=>r.tests.length):=List.mem_map.2 ⟨r,hr,rfl⟩;rw[hm]at hmem;obtain⟨x,hx,hxe⟩:=List.mem_map.1 hmem;rw[←hxe];exact hw.2 x hx
 k1:=by omega
 k2:=by omega
 k3:=λr hr=>by
  have:=ZZ hr;omega
end
end Go.Proofs.YtgjflcgmieiafaaGreatDoor
