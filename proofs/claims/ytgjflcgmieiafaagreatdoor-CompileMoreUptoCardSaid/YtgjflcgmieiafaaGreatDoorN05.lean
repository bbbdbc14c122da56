/- CompileMore answers true: rules behind one that matches say nothing, for any table, other table, packet and port of the stated bulk. Conditions: those of the given row and its card (the variable insn.sizes is laid as its initialiser says; bulk at most 1048576). -/
import Derived.Test.YtgjflcgmieiafaaGreatDoorN04
import Derived.Test.YtgjflcgmieiafaaGreatDoorN03
set_option linter.all false
set_option linter.unusedVariables false
set_option linter.unusedSimpArgs false
namespace Go.Cmp
open Go Go.DI
variable{pk:List Int}{port:Int}{rows suf suf' sF E:List BB}{r r':Int->RV}
theorem ZF(t:A8)(n:Nat):∀x∈AL (FZ t n),n<x/\x<=Eb t n:=by
 intro x hx
 unfold FZ at hx
 unfold Eb
 by_cases h1:t.kind=1
 ·rw[if_pos h1]at hx;simp[AL,B4,ins]at hx
 ·rw[if_neg h1]at hx;by_cases h2:t.kind=2
  ·rw[if_pos h2]at hx;simp[AL,B4,ins]at hx
  ·rw[if_neg h2]at hx;rw[if_neg (by omega)];by_cases h3:t.kind=3
   ·rw[if_pos h3]at hx;rw[if_pos h3];rw[BO,Fv]at hx;simp[AL,B4,ins]at hx;omega
   ·rw[if_neg h3]at hx;rw[if_neg h3];rw[BO,BO,BO,Fv]at hx;simp only[List.mem_append]at hx;rcases hx with((hx|hx)|hx)|hx
    ·simp at hx;omega
    ·simp[AL,B4,ins]at hx
    ·have:=HF t (n+1) (n+3) 16 0 (n+4) x hx;omega
    ·simp[AL,B4,lab]at hx;omega
theorem Ph(t:A8)(n:Nat):n+2<=Eb t n:=by unfold Eb;split<;>(try split)<;>omega
theorem XG(t:A8)(fail n:Nat):∀x∈AL (F0 t fail n),n<x/\x<=Eb t n:=by
 intro x hx
 have hg:=Ph t n
 unfold F0 at hx
 rw[BO,BO,BO,BO,Ko,JY,Mi]at hx
 simp only[List.mem_append]at hx
 rcases hx with(((hx|hx)|hx)|hx)|hx
 ·simp[AL,B4,A9,ins]at hx
 ·exact ZF t n x hx
 ·simp at hx
 ·simp at hx
 ·simp at hx;omega
theorem HY(fail:Nat):∀(ts:List A8) (n:Nat),n<=DC ts n/\∀x∈AL (C2 fail ts n),n<x/\x<=DC ts n
 | [],n=>⟨Nat.le_refl _,λx hx=>by simp[C2,AL]at hx⟩
 |t::ts,n=>by
  obtain⟨h1,h2⟩:=HY fail ts (Eb t n);have hg:=Ph t n;refine⟨by simp only[DC];omega,λx hx=>?_⟩;simp only[C2,BO,List.mem_append]at hx;simp only[DC];rcases hx with hx|hx
  ·have:=XG t fail n x hx;omega
  ·have:=h2 x hx;omega
theorem Qt{f:Nat}{mid:List BB}(hbd:B3 rows<=20000)(hb:EA pk)(hport:0<=port)(hs:suf=mid++lab (f+1)::sF)(hf:f+1∉AL sF):
  ∀(ts:List A8) (n:Nat) (r:Int->RV),(∀t∈ts,KA t)->(∀x∈AL suf,x<=n\/DC ts n<x)->Cq r->
  ∃r',Rn rows pk port (C2 (f+1) ts n++suf) r (if ts.all (λt=>CP t pk port)=true then suf else sF) r'/\Cq r'
 | [],n,r,_,_,hR=>⟨r,by simpa[C2]using Rn.refl,hR⟩
 |t::ts,n,r,hW,hl,hR=>by
  obtain⟨hg1,hg2⟩:=HY (f+1) ts (Eb t n);have hg:=Ph t n;simp only[DC]at hl
  obtain⟨r1,p1,q1⟩:=en (rows:=rows) (pk:=pk) (port:=port) (t:=t) (n:=n) (suf:=C2 (f+1) ts (Eb t n)++suf) (mid:=C2 (f+1) ts (Eb t n)++mid) (sF:=sF) hbd (hW t (by simp)) hb hport (by rw[hs];simp) hf
   (λx hx=>by
    rw[BO]at hx;rcases List.mem_append.1 hx with hx|hx
    ·have:=hg2 x hx;omega
    ·have:=hl x hx;omega) hR
  have e:C2 (f+1) (t::ts) n++suf=F0 t (f+1) n++(C2 (f+1) ts (Eb t n)++suf):=by simp[C2]
  rw[e];by_cases h:CP t pk port=true
  ·rw[if_pos h]at p1;obtain⟨r2,p2,q2⟩:=Qt hbd hb hport hs hf ts (Eb t n) r1 (λx hx=>hW x (by simp[hx])) (λx hx=>by have:=hl x hx;omega) q1;refine⟨r2,p1.trans ?_,q2⟩;rw[List.all_cons,h,Bool.true_and];exact p2
  ·rw[if_neg h]at p1;refine⟨r1,?_,q1⟩;have h':CP t pk port=false:=by simpa using h
   rw[List.all_cons,h',Bool.false_and];exact p1
def Fin(rows:List BB)(pk:List Int)(port:Int)(suf:List BB)(r:Int->RV)(v:Int):Prop:=
 ∀pre,rows=pre++suf->∃pc n r',JX (Bf rows) pk port n (B3 pre) r pc r'/\(Bf rows)[pc]?=some DS/\r' 0= .num v
theorem Fin.of{v:Int}(h:Rn rows pk port suf r suf' r')(k:Fin rows pk port suf' r' v):Fin rows pk port suf r v:=λpre hp=>by
 obtain⟨p1,n1,e1,h1⟩:=h pre hp
 obtain⟨pc,n2,r2,h2,h3,h4⟩:=k p1 e1
 exact⟨pc,_,r2,h1.trans h2,h3,h4⟩
theorem ZG{v:Int}(h:r 0= .num v):Fin rows pk port (ins DS 0::suf) r v:=λpre hp=>by
 have a1:=EO pre suf DS 0
 rw[if_neg (Nat.lt_irrefl 0),←hp]at a1
 exact⟨B3 pre,0,r, .nil,a1,h⟩
theorem VB{v:Int}(h0:0<=v)(h1:v<4294967296):Fin rows pk port (Eg v++suf) r v:=by
 refine Fin.of (suf':=ins DS 0::suf) (mP (n:=Kg v)) (ZG ?_)
 rw[C3,Pd]
 congr 1
 omega
def Bt(pk:List Int)(port:Int):List BA->Int
 | []=>0
 |r::l=>if r.tests.all (λt=>CP t pk port)=true then r.verdict else Bt pk port l
structure KB(r:BA):Prop where
 tests:∀t∈r.tests,KA t
 v0:0<=r.verdict
 v1:r.verdict<4294967296
theorem Kq(r0:BA)(n:Nat)(suf:List BB):Gz r0 n++suf=A9++((if r0.tests= []then [ins (DO 5 2 0) (n+1)]else [])++(C2 (n+1) r0.tests (n+1)++(Eg r0.verdict++lab (n+1)::suf))):=by simp[Gz]
theorem ep{r0:BA}{n:Nat}(hbd:B3 rows<=20000)(hb:EA pk)(hport:0<=port)(hW:KB r0)(hl:∀x∈AL suf,DC r0.tests (n+1)<x)(hR:Cq r):
  (r0.tests.all (λt=>CP t pk port)=true->Fin rows pk port (Gz r0 n++suf) r r0.verdict)/\(¬r0.tests.all (λt=>CP t pk port)=true->∃r',Rn rows pk port (Gz r0 n++suf) r suf r'/\Cq r'):=by
 have hge:=(HY (n+1) r0.tests (n+1)).1
 have hf:n+1∉AL suf:=λhx=>by have:=hl _ hx;omega
 obtain⟨T,hT⟩:∃T,C2 (n+1) r0.tests (n+1)++(Eg r0.verdict++lab (n+1)::suf)=T:=⟨_,rfl⟩
 rw[Kq,hT]
 obtain⟨r1,p1,q1,q2,_⟩:=HD (rows:=rows) (pk:=pk) (port:=port) (r:=r) (suf:=(if r0.tests= []then [ins (DO 5 2 0) (n+1)]else [])++T) hR
 have p2:Rn rows pk port ((if r0.tests= []then [ins (DO 5 2 0) (n+1)]else [])++T) r1 T r1:=by
  split
  ·exact Pe (op:=5) (d:=2) (n:=0) (l:=n) (a:=0) (.inr (.inl rfl)) ⟨by decide,by decide⟩ ⟨by decide,by decide⟩ q2 (by simp[DA])
  ·exact Rn.refl
 obtain⟨r2,p3,q3⟩:=Qt (rows:=rows) (pk:=pk) (port:=port) (f:=n) (suf:=Eg r0.verdict++lab (n+1)::suf) (mid:=Eg r0.verdict) (sF:=suf) hbd hb hport rfl hf r0.tests (n+1) r1 hW.tests
  (λx hx=>by
   rw[BO,Da]at hx;rcases List.mem_append.1 hx with hx|hx
   ·simp[AL,B4,Eg,ins]at hx
   ·rcases List.mem_cons.1 hx with hx|hx
    ·omega
    ·have:=hl x hx;omega) q1
 rw[hT]at p3
 constructor
 ·intro h;rw[if_pos h]at p3;exact Fin.of ((p1.trans p2).trans p3) (VB hW.v0 hW.v1)
 ·intro h;rw[if_neg h]at p3;exact⟨r2,(p1.trans p2).trans p3,q3⟩
theorem Mj:∀(l:List BA) (n:Nat),∀x∈AL (CQ l n),n<x
 | [],_,x,h=>by simp[CQ,AL]at h
 |r0::l,n,x,h=>by
  obtain⟨h1,h2⟩:=HY (n+1) r0.tests (n+1);simp only[CQ,BO,List.mem_append]at h;rcases h with h|h
  ·have e:=Kq r0 n [];rw[List.append_nil]at e;rw[e,BO,BO,BO,BO]at h;simp only[List.mem_append]at h;rcases h with h|h|h|h|h
   ·simp[AL,B4,A9,ins]at h
   ·split at h<;>simp[AL,B4,ins]at h
   ·have:=h2 x h;omega
   ·simp[AL,B4,Eg,ins]at h
   ·simp[AL,B4,lab]at h;omega
  ·have:=Mj l (DC r0.tests (n+1)) x h;omega
theorem Od(hbd:B3 rows<=20000)(hb:EA pk)(hport:0<=port):∀(l:List BA) (n:Nat) (r:Int->RV),(∀x∈l,KB x)->Cq r->Fin rows pk port (CQ l n++(A9++Eg 0)) r (Bt pk port l)
 | [],n,r,_,hR=>by
  obtain⟨r1,p1,_⟩:=HD (rows:=rows) (pk:=pk) (port:=port) (r:=r) (suf:=Eg 0) hR;have:=VB (rows:=rows) (pk:=pk) (port:=port) (r:=r1) (suf:= []) (v:=0) (by decide) (by decide);rw[List.append_nil]at this;exact Fin.of p1 this
 |r0::l,n,r,hW,hR=>by
  have e:CQ (r0::l) n++(A9++Eg 0)=Gz r0 n++(CQ l (DC r0.tests (n+1))++(A9++Eg 0)):=by simp[CQ]
  have hn:∀x∈AL (CQ l (DC r0.tests (n+1))++(A9++Eg 0)),DC r0.tests (n+1)<x:=λx hx=>by
   rw[BO]at hx;rcases List.mem_append.1 hx with hx|hx
   ·exact Mj l _ x hx
   ·simp[AL,B4,A9,Eg,ins]at hx
  obtain⟨k1,k2⟩:=ep (rows:=rows) (pk:=pk) (port:=port) (r0:=r0) (n:=n) (r:=r) (suf:=CQ l (DC r0.tests (n+1))++(A9++Eg 0)) hbd hb hport (hW r0 (by simp)) hn hR;rw[e];by_cases h:r0.tests.all (λt=>CP t pk port)=true
  ·rw[Bt,if_pos h];exact k1 h
  ·obtain⟨r1,p1,q1⟩:=k2 h;rw[Bt,if_neg h];exact Fin.of p1 (Od hbd hb hport l (DC r0.tests (n+1)) r1 (λx hx=>hW x (by simp[hx])) q1)
def Dn:Int->RV:=λi=>if i=1 then .ctx else .none
theorem Qu{l:List BA}(hW:∀x∈l,KB x)(hbd:B3 (BS l)<=20000)(hb:EA pk)(hport:0<=port):
  ∃pc n r',JX (Bf (BS l)) pk port n 0 Dn pc r'/\(Bf (BS l))[pc]?=some DS/\r' 0= .num (Bt pk port l)/\n< (Bf (BS l)).length:=by
 have key:Fin (BS l) pk port (BS l) Dn (Bt pk port l):=by
  have e:BS l=ins (Bj 11 6 1) 0::ins (BL 8 7 1 8) 0::(CQ l 0++(A9++Eg 0)):=by simp[BS]
  obtain⟨rows,hr⟩:∃rows,BS l=rows:=⟨_,rfl⟩;rw[hr]at hbd;rw[show Fin (BS l) pk port (BS l) Dn (Bt pk port l)=Fin rows pk port (ins (Bj 11 6 1) 0::ins (BL 8 7 1 8) 0::(CQ l 0++(A9++Eg 0))) Dn (Bt pk port l)by rw[←e,hr]];have h1:=Uv (rows:=rows) (pk:=pk) (port:=port) (r:=Dn) (d:=6) (s:=1) (suf:=ins (BL 8 7 1 8) 0::(CQ l 0++(A9++Eg 0))) ⟨by decide,by decide⟩ ⟨by decide,by decide⟩ (by show RV.ctx≠RV.none;intro h;cases h);have h2:=mR (rows:=rows) (pk:=pk) (port:=port) (r:=CU Dn 6 (Dn 1)) (d:=7) (s:=1) (suf:=CQ l 0++(A9++Eg 0)) ⟨by decide,by decide⟩ ⟨by decide,by decide⟩ rfl;exact Fin.of (h1.trans h2) (Od hbd hb hport l 0 _ hW ⟨rfl,rfl⟩)
 obtain⟨pc,n,r',h1,h2,h3⟩:=key [] rfl
 have hle:=h1.le
 have hlt:pc< (Bf (BS l)).length:=(List.getElem?_eq_some_iff.1 h2).1
 refine⟨pc,n,r',h1,h2,h3,?_⟩
 have:B3 ([]:List BB)=0:=rfl
 omega
end Go.Cmp
namespace Go.Cmp
open Go Go.DI
def u64(a:Int):Prop:=0<=a/\a<18446744073709551616
theorem I4{n:Nat}(h:n<18446744073709551616):(BitVec.ofInt 64 (n:Int)).toNat=n:=by
 rw[BitVec.toNat_ofInt]
 show((n:Int) % 18446744073709551616).toNat=n
 omega
theorem PZ{a b:Int}(ha:u64 a)(hb:u64 b):IntKind.wrap .u64 (Int.ofNat (BitVec.toNat (HAnd.hAnd (BitVec.ofInt 64 a) (BitVec.ofInt 64 b))))=DZ a b:=by
 obtain⟨n,rfl⟩:=Int.eq_ofNat_of_zero_le ha.1
 obtain⟨m,rfl⟩:=Int.eq_ofNat_of_zero_le hb.1
 have h1:=ha.2
 have h2:=hb.2
 have e:BitVec.toNat (HAnd.hAnd (BitVec.ofInt 64 (n:Int)) (BitVec.ofInt 64 (m:Int)))=n &&& m:=by
  rw[BitVec.toNat_and,I4 (by omega),I4 (by omega)]
 rw[e]
 have hle:=Nat.and_le_left (n:=n) (m:=m)
 show IntKind.wrap .u64 ((n &&& m:Nat):Int)=DZ _ _
 rw[IntWalk.u64_in _ (by omega)]
 unfold DZ
 rw[Int.toNat_natCast,Int.toNat_natCast]
theorem dt(n b:Nat)(hb:b<256):(n <<<8)|||b=n*256+b:=by
 rw[←Nat.shiftLeft_add_eq_or_of_lt (i:=8) (by simpa using hb),Nat.shiftLeft_eq]
def EG(pk:List Int)(port:Int):List BA->Nat->Int
 | [],_=> -1
 |r::l,i=>if r.tests.all (λt=>CP t pk port)=true then(i:Int)else EG pk port l (i+1)
theorem O2(pk:List Int)(port:Int):∀(l:List BA) (i:Nat),EG pk port l i<0->Bt pk port l=0/\∀b,Bt pk port (l++b)=Bt pk port b
 | [],_,_=>⟨rfl,λb=>rfl⟩
 |r::l,i,h=>by
  by_cases hr:r.tests.all (λt=>CP t pk port)=true
  ·rw[EG,if_pos hr]at h;omega
  ·rw[EG,if_neg hr]at h;obtain⟨h1,h2⟩:=O2 pk port l (i+1) h;refine⟨by rw[Bt,if_neg hr];exact h1,λb=>?_⟩;rw[List.cons_append,Bt,if_neg hr];exact h2 b
theorem Ju(pk:List Int)(port:Int):∀(l:List BA) (i:Nat),0<=EG pk port l i->∀b,Bt pk port (l++b)=Bt pk port l
 | [],_,h,_=>by simp[EG]at h
 |r::l,i,h,b=>by
  rw[List.cons_append];by_cases hr:r.tests.all (λt=>CP t pk port)=true
  ·rw[Bt,Bt,if_pos hr,if_pos hr]
  ·rw[EG,if_neg hr]at h;rw[Bt,Bt,if_neg hr,if_neg hr];exact Ju pk port l (i+1) h b
end Go.Cmp
namespace Go.Cmp
open Go Go.DI
theorem Ya{l:List Int}{j:Nat}{b:Int}(h:l[j]?=some b):Ho (l.take (j+1))=256*Ho (l.take j)+b:=by
 rw[List.take_add_one,h]
 unfold Ho
 rw[List.foldl_append]
 rfl
end Go.Cmp
namespace Go.DI
namespace Kit
theorem UY{P:Program}{G:Nat}{o:C1}(h:∀f a m v m',o f a m=some (v,m')->∃R:EV,(∀B0,CR P B0 G R)/\B5 R/\R f a m=some (v,m')):(∀B0,CR P B0 G o)/\B5 o:=by
 refine⟨λB0=>⟨λf a m v m' hq=>?_,λf a m v m' hq=>?_,λf a m v m' hq=>?_⟩,λf a m v m' hq=>?_⟩
 ·obtain⟨R,h1,h2,h3⟩:=h _ _ _ _ _ hq;exact(h1 B0).size _ _ _ _ _ h3
 ·obtain⟨R,h1,h2,h3⟩:=h _ _ _ _ _ hq;exact(h1 B0).ok _ _ _ _ _ h3
 ·obtain⟨R,h1,h2,h3⟩:=h _ _ _ _ _ hq;exact(h1 B0).body _ _ _ _ _ h3
 ·obtain⟨R,h1,h2,h3⟩:=h _ _ _ _ _ hq;exact h2 _ _ _ _ _ h3
end Kit
end Go.DI
namespace Go.Proofs.YtgjflcgmieiafaaGreatDoor
open Go Go.DI Go.DI.Kit Go.Proofs Go.Cmp
noncomputable section
theorem Bu:Tryz.prog.follows .mixedOrders=true:=by kernel_rfl
def o0:C1:=λ_ _ _=>none
theorem cE:(∀B0,CR Tryz.prog B0 1 o0)/\B5 o0:=UY λf a m v m' h=>by cases h
structure xT(a:List Value):Prop where
 ex:∃b sp n c off z,a= [.slice (some ⟨b,0,sp⟩) n c, .int .i64 off, .int .i64 z]/\Qj z/\0<=off/\off+z<=n/\n<=1000000
open Classical in
def oW:C1:=λf a m=>if f=101/\xT a then some (.int .i64 0,m)else none
theorem wrap_i64{x:Int}(h: -9223372036854775808<=x/\x<=9223372036854775807):IntKind.wrap .i64 x=x:=IntWalk.i64_in _ h
theorem UZ{a:List Value}(h:xT a)(M:Mem):CG Tryz.prog kp 1 o0 20 101 a M=some (.int .i64 0,M):=by
 obtain⟨b,sp,n,c,off,z,rfl,hz,h0,h1,h2⟩:=h.ex
 have hzb:1<=z/\z<=8:=by rcases hz with h|h|h|h<;>omega
 have ht:=bZ b sp n c off M z hz
 obtain⟨v,m',q1,q2⟩:=H.callO_H (H:=hW) (o:=o0) (λf v args m h=>by cases h) (λf _ a m=>rfl) (g:=λv m=>(v,m)) (b:=(.int .i64 0,M)) (qs:=_) (by rw[ht];rfl) (by rw[ht];rfl) (by
  intro p hp;simp only[List.mem_cons,List.not_mem_nil,or_false]at hp;rcases hp with rfl|rfl
  ·simp[B6,Ba,Bc];omega
  ·have e:IntKind.wrap .i64 (Int.sub (Int.ofNat n) z)=(n:Int) - z:=wrap_i64 (by show _<=(n:Int) - z/\(n:Int) - z<=_;omega);rw[e];simp[B6,Ba,Bc];omega)
 rw[q1]
 simp only[Prod.mk.injEq]at q2
 rw[q2.1,q2.2]
theorem cF:(∀B0,CR Tryz.prog B0 1 oW)/\B5 oW:=UY λf a m v m' h=>by
 unfold oW at h
 split at h<;>simp at h
 rename_i hc
 obtain⟨rfl,rfl⟩:=h
 obtain⟨rfl,hw⟩:=hc
 exact⟨CG Tryz.prog kp 1 o0 20,λB0=>Co Bu hK Ed (cE.1 B0) cE.2 20,CK cE.2 20,UZ hw m⟩
theorem wrap_u64{x:Int}(h:u64 x):IntKind.wrap .u64 x=x:=IntWalk.u64_in _ (by have:=h.1;have:=h.2;omega)
theorem xU{a:Int}(h0:0<=a)(h1:a<72057594037927936):Ny a 8=256*a:=by
 show IntKind.wrap .u64 (a*2 ^ (min (8:Int).toNat 64))=_
 rw[show a*2 ^ (min (8:Int).toNat 64)=256*a by show a*2 ^ 8=_;omega]
 exact wrap_u64 ⟨by omega,by omega⟩
theorem U0{a b:Nat}(ha:a<18446744073709551616)(hb:b<18446744073709551616):iu (a:Int) (b:Int)=((a|||b:Nat):Int):=by
 have h:(a|||b)<2 ^ 64:=Nat.or_lt_two_pow (by omega) (by omega)
 have e:BitVec.toNat (HOr.hOr (BitVec.ofInt 64 (a:Int)) (BitVec.ofInt 64 (b:Int)))=a|||b:=by
  rw[BitVec.toNat_or,I4 ha,I4 hb]
 show IntKind.wrap .u64 ((BitVec.toNat (HOr.hOr (BitVec.ofInt 64 (a:Int)) (BitVec.ofInt 64 (b:Int))):Nat):Int)=_
 rw[e]
 exact wrap_u64 ⟨by omega,by omega⟩
theorem or8{a b:Int}(h0:0<=a)(h1:a<72057594037927936)(hb:0<=b)(hb1:b<256):iu (Ny a 8) (IntKind.wrap .u64 b)=256*a+b:=by
 rw[xU h0 h1,wrap_u64 ⟨hb,by omega⟩]
 obtain⟨n,rfl⟩:=Int.eq_ofNat_of_zero_le h0
 obtain⟨k,rfl⟩:=Int.eq_ofNat_of_zero_le hb
 rw[show(256:Int)*(n:Int)=((n*256:Nat):Int)by omega,U0 (by omega) (by omega)]
 have:=dt n k (by omega)
 rw[Nat.shiftLeft_eq]at this
 rw[show n*256=n*2 ^ 8 by omega,this]
 omega
theorem cG{pk:List Int}{a z:Nat}(h:a<pk.length):cut pk a (z+1)=pk.getD a 0::cut pk (a+1) z:=by
 unfold cut
 rw[List.drop_eq_getElem_cons h,List.take_succ_cons,List.getD_eq_getElem?_getD,List.getElem?_eq_getElem h]
 rfl
theorem HE:∀(l:List Int),(∀b∈l,0<=b/\b<256)->0<=Eh l/\Eh l<256 ^ l.length
 | [],_=>by simp[Eh]
 |b::l,h=>by
  have ih:=HE l λx hx=>h x (List.mem_cons_of_mem _ hx);have hb:=h b (List.mem_cons_self ..);have e:Eh (b::l)=b+256*Eh l:=rfl;rw[e,List.length_cons,Int.pow_succ];omega
theorem We{pk:List Int}{a z:Nat}(hr:∀b∈pk,0<=b/\b<256)(h:a+z<=pk.length):0<=Eh (cut pk a z)/\Eh (cut pk a z)<256 ^ z:=by
 have:=HE (cut pk a z) λb hb=>hr b (List.mem_of_mem_drop (List.mem_of_mem_take hb))
 have hl:(cut pk a z).length=z:=by unfold cut;rw[List.length_take,List.length_drop];omega
 rw[hl]at this
 exact this
def gP(pk:List Int):Nat->Int:=λi=>pk.getD i 0
section
variable{x:BI}{n:Nat}{off z:Int}{pk:List Int}
theorem JM.ix(h:JM x n off z pk){j:Nat}(hj:(j:Int)<z):u4 off j=off+j:=by
 have:=h.fits;have:=h.off0;have:=h.small
 exact wrap_i64 (by show _<=off+(j:Int)/\off+(j:Int)<=_;omega)
theorem JM.ad(h:JM x n off z pk){j:Nat}(hj:(j:Int)<z):sf off j=off.toNat+j:=by
 have:=h.off0
 unfold sf
 rw[h.ix hj]
 show 0+(off+(j:Int)).toNat*1=_
 omega
theorem JM.nG(h:JM x n off z pk){j k:Nat}(hj:(j:Int)<z)(hk:j+k+1=z.toNat)(hk7:k<=7):nG (gP pk) off (Eh (cut pk (off.toNat+(j+1)) k)) j=Eh (cut pk (off.toNat+j) (k+1)):=by
 have h1:=h.fits;have h2:=h.off0
 have hlt:off.toNat+j<pk.length:=by omega
 have hb:=We (a:=off.toNat+(j+1)) (z:=k) h.rng (by omega)
 have hbb:Eh (cut pk (off.toNat+(j+1)) k)<72057594037927936:=by
  have:(256:Int) ^ k<=72057594037927936:=by
   have hc:k=0\/k=1\/k=2\/k=3\/k=4\/k=5\/k=6\/k=7:=by omega
   rcases hc with rfl|rfl|rfl|rfl|rfl|rfl|rfl|rfl<;>decide
  omega
 have hg:gP pk (off.toNat+j)=pk.getD (off.toNat+j) 0:=rfl
 have hgr:=h.rng (pk.getD (off.toNat+j) 0) (by rw[List.getD_eq_getElem?_getD,List.getElem?_eq_getElem hlt];exact List.getElem_mem hlt)
 unfold Go.Proofs.YtgjflcgmieiafaaGreatDoor.nG
 rw[h.ad hj,hg,or8 hb.1 hbb hgr.1 hgr.2,cG hlt]
 show _=pk.getD (off.toNat+j) 0+256*Eh (cut pk (off.toNat+j+1) k)
 rw[Nat.add_assoc];omega
theorem JM.pG{M:Mem}{b:Nat}(h:JM (M.get b) n off z pk){j:Nat}(hj:(j:Int)<z):∀p∈pG M b n (gP pk) off j,p:=by
 have h1:=h.fits;have h2:=h.off0;have h3:=h.len
 intro p hp
 rcases List.mem_cons.1 hp with rfl|hp
 ·rw[h.ix hj];omega
 ·obtain rfl:=List.mem_singleton.1 hp;rw[h.ad hj];obtain⟨own,hb⟩:=h.blk;show H.blkNth (M.get b) _=_;rw[hb];show(AN pk)[off.toNat+j]?=_;have hlt:off.toNat+j<pk.length:=by omega
  unfold AN gP;rw[List.getElem?_map,List.getElem?_eq_getElem hlt,List.getD_eq_getElem?_getD,List.getElem?_eq_getElem hlt];rfl
theorem jR{M:Mem}{b c:Nat}{sp:Option Nat}(h:JM (M.get b) n off z pk):CG Tryz.prog kp 1 oW 20 80 [.slice (some ⟨b,0,sp⟩) n c, .int .i64 off, .int .i64 z] M=some (.tuple ⟨[.int .u64 (Eh (cut pk off.toNat z.toNat)), .int .i64 0]⟩,M):=by
 have hW:xT [.slice (some ⟨b,0,sp⟩) n c, .int .i64 off, .int .i64 z]:=⟨b,sp,n,c,off,z,rfl,h.sz,h.off0,by have:=h.fits;have:=h.len;omega,by have:=h.small;have:=h.len;omega⟩
 have hp0:sg M b sp n c (gP pk) off z:=⟨rfl,rfl,hW.ex⟩
 have h1:∀f v args m,(hG (gP pk)).call f=some v->(hG (gP pk)).spec f args (m.get (hG (gP pk)).blk) v->oW f args m=some (v,m):=by
  rintro f v args m hc ⟨rfl,rfl,hw⟩;exact if_pos ⟨rfl,⟨hw⟩⟩
 have h2:∀f,(hG (gP pk)).call f=none->∀a m,oW f a m=none:=by
  intro f hc a m;have hne:f≠101:=by rintro rfl;cases hc
  exact if_neg λh=>hne h.1
 have key:∀(N:Int) (qs:List Prop),S6 (gP pk) b sp n c off z M=some ((.tuple ⟨[.int .u64 N, .int .i64 0]⟩,M),[],qs)->(∀p∈qs,p)->N=Eh (cut pk off.toNat z.toNat)->CG Tryz.prog kp 1 oW 20 80 [.slice (some ⟨b,0,sp⟩) n c, .int .i64 off, .int .i64 z] M=some (.tuple ⟨[.int .u64 (Eh (cut pk off.toNat z.toNat)), .int .i64 0]⟩,M):=by
  intro N qs hr hq hN
  obtain⟨v,m',q1,q2⟩:=H.callO_H (H:=hG (gP pk)) (o:=oW) h1 h2 (k:=20) (f:=80) (args:= [.slice (some ⟨b,0,sp⟩) n c, .int .i64 off, .int .i64 z]) (m:=M) (g:=λv m=>(v,m)) (b:=(.tuple ⟨[.int .u64 N, .int .i64 0]⟩,M)) (qs:=qs) (by
    show(S6 (gP pk) b sp n c off z M).map _=_;rw[hr];rfl) (by
    show(S6 (gP pk) b sp n c off z M).map _=(S6 (gP pk) b sp n c off z M).map _;rw[hr];rfl) hq
  rw[q1];simp only[Prod.mk.injEq]at q2;rw[q2.1,q2.2,hN]
 have hz0:Eh (cut pk (off.toNat+z.toNat) 0)=0:=by simp[cut,Eh]
 rcases h.sz with rfl|rfl|rfl|rfl
 ·refine key _ _ (ow ..) ?_ ?_
  ·intro p hp;rcases List.mem_cons.1 hp with rfl|hp
   ·exact hp0
   ·exact h.pG (by decide) p hp
  ·have e0:=h.nG (j:=0) (k:=0) (by decide) (by decide) (by decide);rw[show Eh (cut pk (off.toNat+(0+1)) 0)=0 from hz0]at e0;exact e0
 ·refine key _ _ (ox ..) ?_ ?_
  ·intro p hp;rcases List.mem_cons.1 hp with rfl|hp
   ·exact hp0
   ·simp only[List.mem_append]at hp;rcases hp with hp|hp<;>exact h.pG (by decide) p hp
  ·have e1:=h.nG (j:=1) (k:=0) (by decide) (by decide) (by decide);rw[show Eh (cut pk (off.toNat+(1+1)) 0)=0 from hz0]at e1;have e0:=h.nG (j:=0) (k:=1) (by decide) (by decide) (by decide);rw[e1];exact e0
 ·refine key _ _ (oy ..) ?_ ?_
  ·intro p hp;rcases List.mem_cons.1 hp with rfl|hp
   ·exact hp0
   ·simp only[List.mem_append]at hp;rcases hp with hp|hp|hp|hp<;>exact h.pG (by decide) p hp
  ·have e3:=h.nG (j:=3) (k:=0) (by decide) (by decide) (by decide);rw[show Eh (cut pk (off.toNat+(3+1)) 0)=0 from hz0]at e3;have e2:=h.nG (j:=2) (k:=1) (by decide) (by decide) (by decide);have e1:=h.nG (j:=1) (k:=2) (by decide) (by decide) (by decide);have e0:=h.nG (j:=0) (k:=3) (by decide) (by decide) (by decide);rw[e3,e2,e1];exact e0
 ·refine key _ _ (oz ..) ?_ ?_
  ·intro p hp;rcases List.mem_cons.1 hp with rfl|hp
   ·exact hp0
   ·simp only[List.mem_append]at hp;rcases hp with hp|hp|hp|hp|hp|hp|hp|hp<;>exact h.pG (by decide) p hp
  ·have e7:=h.nG (j:=7) (k:=0) (by decide) (by decide) (by decide);rw[show Eh (cut pk (off.toNat+(7+1)) 0)=0 from hz0]at e7;have e6:=h.nG (j:=6) (k:=1) (by decide) (by decide) (by decide);have e5:=h.nG (j:=5) (k:=2) (by decide) (by decide) (by decide);have e4:=h.nG (j:=4) (k:=3) (by decide) (by decide) (by decide);have e3:=h.nG (j:=3) (k:=4) (by decide) (by decide) (by decide);have e2:=h.nG (j:=2) (k:=5) (by decide) (by decide) (by decide);have e1:=h.nG (j:=1) (k:=6) (by decide) (by decide) (by decide);have e0:=h.nG (j:=0) (k:=7) (by decide) (by decide) (by decide);rw[e7,e6,e5,e4,e3,e2,e1];exact e0
end
end
end Go.Proofs.YtgjflcgmieiafaaGreatDoor
namespace Go.Proofs.YtgjflcgmieiafaaGreatDoor
open Go Go.DI Go.DI.Kit Go.Proofs Go.Cmp
noncomputable section
set_option maxHeartbeats 4000000
theorem kS(L P:List Value)(pv:Value)(n:Nat)(port k0 n0 k1 n1 k2 n2 k3 n3 k4 n4 k5 n5 k6 n6 k7 n7 k8 n8 k9 n9 at_ st imm:Int):
 DD (BC (AU (DU 11 2 imm)) 0 true 0 (mV L P (AP n) pv port (AK k0 n0 k1 n1 k2 n2 k3 n3 k4 n4 k5 n5 k6 n6 k7 n7 k8 n8 k9 n9) at_ st false 0))=
  some (seenV (.bool true) L P (AP n) pv port (AK k0 n0 k1 n1 1 (Ez imm) k3 n3 k4 n4 k5 n5 k6 n6 k7 n7 k8 n8 k9 n9) (Cp at_) (Cp st) false 0,[GS at_ n,GY L at_ (AU (DU 11 2 imm))])/\
 BE (BC (AU (DU 11 2 imm)) 0 true 0 (mV L P (AP n) pv port (AK k0 n0 k1 n1 k2 n2 k3 n3 k4 n4 k5 n5 k6 n6 k7 n7 k8 n8 k9 n9) at_ st false 0)):=⟨by kernel_rfl,by unfold BE;kernel_rfl⟩
theorem YU(L P:List Value)(pv:Value)(n:Nat)(port k0 n0 n1 k2 n2 k3 n3 k4 n4 k5 n5 k6 n6 k7 n7 k8 n8 k9 n9 at_ st:Int):
 DD (BC (AU (Bj 11 6 1)) 0 true 0 (mV L P (AP n) pv port (AK k0 n0 1 n1 k2 n2 k3 n3 k4 n4 k5 n5 k6 n6 k7 n7 k8 n8 k9 n9) at_ st false 0))=
  some (seenV (.bool true) L P (AP n) pv port (AK k0 n0 1 n1 k2 n2 k3 n3 k4 n4 k5 n5 1 n1 k7 n7 k8 n8 k9 n9) (Cp at_) (Cp st) false 0,[GS at_ n,GY L at_ (AU (Bj 11 6 1))])/\
 BE (BC (AU (Bj 11 6 1)) 0 true 0 (mV L P (AP n) pv port (AK k0 n0 1 n1 k2 n2 k3 n3 k4 n4 k5 n5 k6 n6 k7 n7 k8 n8 k9 n9) at_ st false 0)):=⟨by kernel_rfl,by unfold BE;kernel_rfl⟩
theorem YV(L P:List Value)(pv:Value)(n:Nat)(port k0 n0 k1 n1 k2 n2 k3 n3 k4 n4 k5 n5 k6 n6 k7 n7 n8 k9 n9 at_ st:Int):
 DD (BC (AU (Bj 11 2 8)) 0 true 0 (mV L P (AP n) pv port (AK k0 n0 k1 n1 k2 n2 k3 n3 k4 n4 k5 n5 k6 n6 k7 n7 2 n8 k9 n9) at_ st false 0))=
  some (seenV (.bool true) L P (AP n) pv port (AK k0 n0 k1 n1 2 n8 k3 n3 k4 n4 k5 n5 k6 n6 k7 n7 2 n8 k9 n9) (Cp at_) (Cp st) false 0,[GS at_ n,GY L at_ (AU (Bj 11 2 8))])/\
 BE (BC (AU (Bj 11 2 8)) 0 true 0 (mV L P (AP n) pv port (AK k0 n0 k1 n1 k2 n2 k3 n3 k4 n4 k5 n5 k6 n6 k7 n7 2 n8 k9 n9) at_ st false 0)):=⟨by kernel_rfl,by unfold BE;kernel_rfl⟩
theorem qY(L P:List Value)(pv:Value)(n:Nat)(port k0 n0 k1 n1 k4 n4 k5 n5 k6 n6 k7 n7 k8 n8 k9 n9 at_ st a c:Int):
 DD (BC (AU (Bj 5 2 3)) 0 true 0 (mV L P (AP n) pv port (AK k0 n0 k1 n1 1 a 1 c k4 n4 k5 n5 k6 n6 k7 n7 k8 n8 k9 n9) at_ st false 0))=
  some (seenV (.bool true) L P (AP n) pv port (AK k0 n0 k1 n1 1 (MF a c) 1 c k4 n4 k5 n5 k6 n6 k7 n7 k8 n8 k9 n9) (Cp at_) (Cp st) false 0,[GS at_ n,GY L at_ (AU (Bj 5 2 3))])/\
 BE (BC (AU (Bj 5 2 3)) 0 true 0 (mV L P (AP n) pv port (AK k0 n0 k1 n1 1 a 1 c k4 n4 k5 n5 k6 n6 k7 n7 k8 n8 k9 n9) at_ st false 0)):=⟨by kernel_rfl,by unfold BE;kernel_rfl⟩
theorem dV(L P:List Value)(pv:Value)(n:Nat)(port k0 n0 k1 n1 k2 n2 k3 n3 k4 n4 k5 n5 n6 k7 n7 k8 n8 k9 n9 at_ st:Int):
 DD (BC (AU (BL 4 2 6 4)) 0 true 0 (mV L P (AP n) pv port (AK k0 n0 k1 n1 k2 n2 k3 n3 k4 n4 k5 n5 2 n6 k7 n7 k8 n8 k9 n9) at_ st false 0))=
  some (seenV (.bool true) L P (AP n) pv port (AK k0 n0 k1 n1 1 (IntKind.wrap .u64 port) k3 n3 k4 n4 k5 n5 2 n6 k7 n7 k8 n8 k9 n9) (Cp at_) (Cp st) false 0,[GS at_ n,GY L at_ (AU (BL 4 2 6 4))])/\
 BE (BC (AU (BL 4 2 6 4)) 0 true 0 (mV L P (AP n) pv port (AK k0 n0 k1 n1 k2 n2 k3 n3 k4 n4 k5 n5 2 n6 k7 n7 k8 n8 k9 n9) at_ st false 0)):=⟨by kernel_rfl,by unfold BE;kernel_rfl⟩
theorem uP(L P:List Value)(pa:Option Addr)(pn pc:Nat)(n:Nat)(port k0 n0 k1 n1 k2 n2 k3 n3 k4 n4 k5 n5 k6 n6 n7 k8 n8 k9 n9 at_ st o N:Int):
 DD (BC (AU (BL 2 2 7 o)) 0 true N (mV L P (AP n) (.slice pa pn pc) port (AK k0 n0 k1 n1 k2 n2 k3 n3 k4 n4 k5 n5 k6 n6 3 n7 k8 n8 k9 n9) at_ st false 0))=
  some (seenV (.bool true) L P (AP n) (.slice pa pn pc) port (AK k0 n0 k1 n1 1 N k3 n3 k4 n4 k5 n5 k6 n6 3 n7 k8 n8 k9 n9) (Cp at_) (Cp st) false 0,[GS at_ n,GY L at_ (AU (BL 2 2 7 o)),DT 80 [.slice pa pn pc, .int .i64 (Sh o), .int .i64 2] (.cells true P) (.tuple ⟨[.int .u64 N, .int .i64 0]⟩)])/\
 BE (BC (AU (BL 2 2 7 o)) 0 true N (mV L P (AP n) (.slice pa pn pc) port (AK k0 n0 k1 n1 k2 n2 k3 n3 k4 n4 k5 n5 k6 n6 3 n7 k8 n8 k9 n9) at_ st false 0)):=⟨by kernel_rfl,by unfold BE;kernel_rfl⟩
theorem kT(L P:List Value)(pv:Value)(n:Nat)(port k0 n0 k1 n1 k3 n3 k4 n4 k5 n5 k6 n6 k7 n7 k8 n8 k9 n9 at_ st a:Int):
 DD (BC (AU (Ci 2)) 0 true 0 (mV L P (AP n) pv port (AK k0 n0 k1 n1 1 a k3 n3 k4 n4 k5 n5 k6 n6 k7 n7 k8 n8 k9 n9) at_ st false 0))=
  some (seenV (.bool true) L P (AP n) pv port (AK k0 n0 k1 n1 1 (L5 (O1 a) 48) k3 n3 k4 n4 k5 n5 k6 n6 k7 n7 k8 n8 k9 n9) (Cp at_) (Cp st) false 0,[GS at_ n,GY L at_ (AU (Ci 2))])/\
 BE (BC (AU (Ci 2)) 0 true 0 (mV L P (AP n) pv port (AK k0 n0 k1 n1 1 a k3 n3 k4 n4 k5 n5 k6 n6 k7 n7 k8 n8 k9 n9) at_ st false 0)):=⟨by kernel_rfl,by unfold BE;kernel_rfl⟩
theorem U8(L P:List Value)(pv:Value)(n:Nat)(port k0 n0 k1 n1 k3 n3 k4 n4 k5 n5 k6 n6 k7 n7 k8 n8 k9 n9 at_ st a imm o:Int):
 DD (BC (AU (BJ (DO 3 2 imm) o)) 0 true 0 (mV L P (AP n) pv port (AK k0 n0 k1 n1 1 a k3 n3 k4 n4 k5 n5 k6 n6 k7 n7 k8 n8 k9 n9) at_ st false 0))=
  some (seenV (.bool true) L P (AP n) pv port (AK k0 n0 k1 n1 1 a k3 n3 k4 n4 k5 n5 k6 n6 k7 n7 k8 n8 k9 n9) (IntKind.wrap .i64 (Int.add (Cp at_) (IntKind.wrap .i64 o))) (Cp st) false 0,[GS at_ n,GY L at_ (AU (BJ (DO 3 2 imm) o)),DT 87 [.int .i64 3, .bool true, .int .u64 a, .int .u64 (Ez imm)] (.cells true P) (.tuple ⟨[.bool true, .int .i64 0]⟩)])/\
 BE (BC (AU (BJ (DO 3 2 imm) o)) 0 true 0 (mV L P (AP n) pv port (AK k0 n0 k1 n1 1 a k3 n3 k4 n4 k5 n5 k6 n6 k7 n7 k8 n8 k9 n9) at_ st false 0)):=⟨by kernel_rfl,by unfold BE;kernel_rfl⟩
theorem U9(L P:List Value)(pv:Value)(n:Nat)(port k0 n0 k1 n1 k2 n2 k3 n3 k4 n4 k5 n5 k6 n6 k7 n7 k9 n9 at_ st a imm o:Int):
 DD (BC (AU (BJ (DO 3 8 imm) o)) 0 false 0 (mV L P (AP n) pv port (AK k0 n0 k1 n1 k2 n2 k3 n3 k4 n4 k5 n5 k6 n6 k7 n7 1 a k9 n9) at_ st false 0))=
  some (seenV (.bool true) L P (AP n) pv port (AK k0 n0 k1 n1 k2 n2 k3 n3 k4 n4 k5 n5 k6 n6 k7 n7 1 a k9 n9) (Cp at_) (Cp st) false 0,[GS at_ n,GY L at_ (AU (BJ (DO 3 8 imm) o)),DT 87 [.int .i64 3, .bool true, .int .u64 a, .int .u64 (Ez imm)] (.cells true P) (.tuple ⟨[.bool false, .int .i64 0]⟩)])/\
 BE (BC (AU (BJ (DO 3 8 imm) o)) 0 false 0 (mV L P (AP n) pv port (AK k0 n0 k1 n1 k2 n2 k3 n3 k4 n4 k5 n5 k6 n6 k7 n7 1 a k9 n9) at_ st false 0)):=⟨by kernel_rfl,by unfold BE;kernel_rfl⟩
theorem Ua(L P:List Value)(pv:Value)(n:Nat)(port k0 n0 k1 n1 k2 n2 k3 n3 k4 n4 k5 n5 k6 n6 k7 n7 k9 n9 at_ st a imm o:Int):
 DD (BC (AU (BJ (DO 5 8 imm) o)) 0 true 0 (mV L P (AP n) pv port (AK k0 n0 k1 n1 k2 n2 k3 n3 k4 n4 k5 n5 k6 n6 k7 n7 1 a k9 n9) at_ st false 0))=
  some (seenV (.bool true) L P (AP n) pv port (AK k0 n0 k1 n1 k2 n2 k3 n3 k4 n4 k5 n5 k6 n6 k7 n7 1 a k9 n9) (IntKind.wrap .i64 (Int.add (Cp at_) (IntKind.wrap .i64 o))) (Cp st) false 0,[GS at_ n,GY L at_ (AU (BJ (DO 5 8 imm) o)),DT 87 [.int .i64 5, .bool true, .int .u64 a, .int .u64 (Ez imm)] (.cells true P) (.tuple ⟨[.bool true, .int .i64 0]⟩)])/\
 BE (BC (AU (BJ (DO 5 8 imm) o)) 0 true 0 (mV L P (AP n) pv port (AK k0 n0 k1 n1 k2 n2 k3 n3 k4 n4 k5 n5 k6 n6 k7 n7 1 a k9 n9) at_ st false 0)):=⟨by kernel_rfl,by unfold BE;kernel_rfl⟩
theorem Si(L P:List Value)(pv:Value)(n:Nat)(port k0 n0 k1 n1 k3 n3 k4 n4 k5 n5 k6 n6 k7 n7 k8 n8 k9 n9 at_ st a imm o:Int):
 DD (BC (AU (BJ (DO 10 2 imm) o)) 0 false 0 (mV L P (AP n) pv port (AK k0 n0 k1 n1 1 a k3 n3 k4 n4 k5 n5 k6 n6 k7 n7 k8 n8 k9 n9) at_ st false 0))=
  some (seenV (.bool true) L P (AP n) pv port (AK k0 n0 k1 n1 1 a k3 n3 k4 n4 k5 n5 k6 n6 k7 n7 k8 n8 k9 n9) (Cp at_) (Cp st) false 0,[GS at_ n,GY L at_ (AU (BJ (DO 10 2 imm) o)),DT 87 [.int .i64 10, .bool true, .int .u64 a, .int .u64 (Ez imm)] (.cells true P) (.tuple ⟨[.bool false, .int .i64 0]⟩)])/\
 BE (BC (AU (BJ (DO 10 2 imm) o)) 0 false 0 (mV L P (AP n) pv port (AK k0 n0 k1 n1 1 a k3 n3 k4 n4 k5 n5 k6 n6 k7 n7 k8 n8 k9 n9) at_ st false 0)):=⟨by kernel_rfl,by unfold BE;kernel_rfl⟩
theorem Ub(L P:List Value)(pv:Value)(n:Nat)(port k0 n0 k1 n1 k3 n3 k4 n4 k5 n5 k6 n6 k7 n7 k8 n8 k9 n9 at_ st a imm o:Int):
 DD (BC (AU (BJ (DO 2 2 imm) o)) 0 true 0 (mV L P (AP n) pv port (AK k0 n0 k1 n1 1 a k3 n3 k4 n4 k5 n5 k6 n6 k7 n7 k8 n8 k9 n9) at_ st false 0))=
  some (seenV (.bool true) L P (AP n) pv port (AK k0 n0 k1 n1 1 a k3 n3 k4 n4 k5 n5 k6 n6 k7 n7 k8 n8 k9 n9) (IntKind.wrap .i64 (Int.add (Cp at_) (IntKind.wrap .i64 o))) (Cp st) false 0,[GS at_ n,GY L at_ (AU (BJ (DO 2 2 imm) o)),DT 87 [.int .i64 2, .bool true, .int .u64 a, .int .u64 (Ez imm)] (.cells true P) (.tuple ⟨[.bool true, .int .i64 0]⟩)])/\
 BE (BC (AU (BJ (DO 2 2 imm) o)) 0 true 0 (mV L P (AP n) pv port (AK k0 n0 k1 n1 1 a k3 n3 k4 n4 k5 n5 k6 n6 k7 n7 k8 n8 k9 n9) at_ st false 0)):=⟨by kernel_rfl,by unfold BE;kernel_rfl⟩
theorem Uc(L P:List Value)(pv:Value)(n:Nat)(port k0 n0 k1 n1 k2 n2 k3 n3 k4 n4 k5 n5 k6 n6 k7 n7 k9 n9 at_ st a imm o:Int):
 DD (BC (AU (BJ (DO 2 8 imm) o)) 0 false 0 (mV L P (AP n) pv port (AK k0 n0 k1 n1 k2 n2 k3 n3 k4 n4 k5 n5 k6 n6 k7 n7 1 a k9 n9) at_ st false 0))=
  some (seenV (.bool true) L P (AP n) pv port (AK k0 n0 k1 n1 k2 n2 k3 n3 k4 n4 k5 n5 k6 n6 k7 n7 1 a k9 n9) (Cp at_) (Cp st) false 0,[GS at_ n,GY L at_ (AU (BJ (DO 2 8 imm) o)),DT 87 [.int .i64 2, .bool true, .int .u64 a, .int .u64 (Ez imm)] (.cells true P) (.tuple ⟨[.bool false, .int .i64 0]⟩)])/\
 BE (BC (AU (BJ (DO 2 8 imm) o)) 0 false 0 (mV L P (AP n) pv port (AK k0 n0 k1 n1 k2 n2 k3 n3 k4 n4 k5 n5 k6 n6 k7 n7 1 a k9 n9) at_ st false 0)):=⟨by kernel_rfl,by unfold BE;kernel_rfl⟩
theorem YW(L P:List Value)(pv:Value)(n:Nat)(port k0 n0 k1 n1 k4 n4 k5 n5 k6 n6 k7 n7 k8 n8 k9 n9 at_ st a c o:Int):
 DD (BC (AU (BJ (Ey 2) o)) 0 true 0 (mV L P (AP n) pv port (AK k0 n0 k1 n1 1 a 1 c k4 n4 k5 n5 k6 n6 k7 n7 k8 n8 k9 n9) at_ st false 0))=
  some (seenV (.bool true) L P (AP n) pv port (AK k0 n0 k1 n1 1 a 1 c k4 n4 k5 n5 k6 n6 k7 n7 k8 n8 k9 n9) (IntKind.wrap .i64 (Int.add (Cp at_) (IntKind.wrap .i64 o))) (Cp st) false 0,[GS at_ n,GY L at_ (AU (BJ (Ey 2) o)),DT 87 [.int .i64 2, .bool true, .int .u64 a, .int .u64 c] (.cells true P) (.tuple ⟨[.bool true, .int .i64 0]⟩)])/\
 BE (BC (AU (BJ (Ey 2) o)) 0 true 0 (mV L P (AP n) pv port (AK k0 n0 k1 n1 1 a 1 c k4 n4 k5 n5 k6 n6 k7 n7 k8 n8 k9 n9) at_ st false 0)):=⟨by kernel_rfl,by unfold BE;kernel_rfl⟩
theorem qZ(L P:List Value)(pv:Value)(n:Nat)(port k1 n1 k2 n2 k3 n3 k4 n4 k5 n5 k6 n6 k7 n7 k8 n8 k9 n9 at_ st a:Int):
 DD (BC (AU DS) 0 true 0 (mV L P (AP n) pv port (AK 1 a k1 n1 k2 n2 k3 n3 k4 n4 k5 n5 k6 n6 k7 n7 k8 n8 k9 n9) at_ st false 0))=
  some (seenV (.bool true) L P (AP n) pv port (AK 1 a k1 n1 k2 n2 k3 n3 k4 n4 k5 n5 k6 n6 k7 n7 k8 n8 k9 n9) at_ (Cp st) true 0,[GS at_ n,GY L at_ (AU DS)])/\
 BE (BC (AU DS) 0 true 0 (mV L P (AP n) pv port (AK 1 a k1 n1 k2 n2 k3 n3 k4 n4 k5 n5 k6 n6 k7 n7 k8 n8 k9 n9) at_ st false 0)):=⟨by kernel_rfl,by unfold BE;kernel_rfl⟩
end
end Go.Proofs.YtgjflcgmieiafaaGreatDoor
namespace Go.Proofs.YtgjflcgmieiafaaGreatDoor
open Go Go.DI Go.DI.Kit Go.Proofs Go.Cmp
noncomputable section
set_option maxHeartbeats 4000000
theorem kU(L P:List Value)(pv:Value)(n:Nat)(port k0 n0 k1 n1 k2 n2 k3 n3 k4 n4 k5 n5 k6 n6 k7 n7 k8 n8 k9 n9 at_ st imm:Int):
 DD (BC (AU (DU 11 3 imm)) 0 true 0 (mV L P (AP n) pv port (AK k0 n0 k1 n1 k2 n2 k3 n3 k4 n4 k5 n5 k6 n6 k7 n7 k8 n8 k9 n9) at_ st false 0))=
  some (seenV (.bool true) L P (AP n) pv port (AK k0 n0 k1 n1 k2 n2 1 (Ez imm) k4 n4 k5 n5 k6 n6 k7 n7 k8 n8 k9 n9) (Cp at_) (Cp st) false 0,[GS at_ n,GY L at_ (AU (DU 11 3 imm))])/\
 BE (BC (AU (DU 11 3 imm)) 0 true 0 (mV L P (AP n) pv port (AK k0 n0 k1 n1 k2 n2 k3 n3 k4 n4 k5 n5 k6 n6 k7 n7 k8 n8 k9 n9) at_ st false 0)):=⟨by kernel_rfl,by unfold BE;kernel_rfl⟩
theorem YX(L P:List Value)(pv:Value)(n:Nat)(port k0 n0 k1 n1 k2 n2 k3 n3 k4 n4 k5 n5 k6 n6 k7 n7 n8 k9 n9 at_ st:Int):
 DD (BC (AU (Bj 11 2 8)) 0 true 0 (mV L P (AP n) pv port (AK k0 n0 k1 n1 k2 n2 k3 n3 k4 n4 k5 n5 k6 n6 k7 n7 1 n8 k9 n9) at_ st false 0))=
  some (seenV (.bool true) L P (AP n) pv port (AK k0 n0 k1 n1 1 n8 k3 n3 k4 n4 k5 n5 k6 n6 k7 n7 1 n8 k9 n9) (Cp at_) (Cp st) false 0,[GS at_ n,GY L at_ (AU (Bj 11 2 8))])/\
 BE (BC (AU (Bj 11 2 8)) 0 true 0 (mV L P (AP n) pv port (AK k0 n0 k1 n1 k2 n2 k3 n3 k4 n4 k5 n5 k6 n6 k7 n7 1 n8 k9 n9) at_ st false 0)):=⟨by kernel_rfl,by unfold BE;kernel_rfl⟩
theorem YY(L P:List Value)(pv:Value)(n:Nat)(port k0 n0 n1 k2 n2 k3 n3 k4 n4 k5 n5 k6 n6 k7 n7 k8 n8 k9 n9 at_ st:Int):
 DD (BC (AU (Bj 11 6 1)) 0 true 0 (mV L P (AP n) pv port (AK k0 n0 3 n1 k2 n2 k3 n3 k4 n4 k5 n5 k6 n6 k7 n7 k8 n8 k9 n9) at_ st false 0))=
  some (seenV (.bool true) L P (AP n) pv port (AK k0 n0 3 n1 k2 n2 k3 n3 k4 n4 k5 n5 3 n1 k7 n7 k8 n8 k9 n9) (Cp at_) (Cp st) false 0,[GS at_ n,GY L at_ (AU (Bj 11 6 1))])/\
 BE (BC (AU (Bj 11 6 1)) 0 true 0 (mV L P (AP n) pv port (AK k0 n0 3 n1 k2 n2 k3 n3 k4 n4 k5 n5 k6 n6 k7 n7 k8 n8 k9 n9) at_ st false 0)):=⟨by kernel_rfl,by unfold BE;kernel_rfl⟩
theorem uQ(L P:List Value)(pv:Value)(n:Nat)(port k0 n0 k1 n1 k2 n2 k3 n3 k4 n4 k5 n5 k6 n6 k7 n7 k8 n8 k9 n9 at_ st imm:Int):
 DD (BC (AU (HC imm)) 0 true 0 (mV L P (AP n) pv port (AK k0 n0 k1 n1 k2 n2 k3 n3 k4 n4 k5 n5 k6 n6 k7 n7 k8 n8 k9 n9) at_ st false 0))=
  some (seenV (.bool true) L P (AP n) pv port (AK 1 (MF (MF (Ez imm) 4294967295) 4294967295) k1 n1 k2 n2 k3 n3 k4 n4 k5 n5 k6 n6 k7 n7 k8 n8 k9 n9) (Cp at_) (Cp st) false 0,[GS at_ n,GY L at_ (AU (HC imm))])/\
 BE (BC (AU (HC imm)) 0 true 0 (mV L P (AP n) pv port (AK k0 n0 k1 n1 k2 n2 k3 n3 k4 n4 k5 n5 k6 n6 k7 n7 k8 n8 k9 n9) at_ st false 0)):=⟨by kernel_rfl,by unfold BE;kernel_rfl⟩
theorem kV(L P:List Value)(pv:Value)(n:Nat)(port k0 n0 n1 k2 n2 k3 n3 k4 n4 k5 n5 k6 n6 k7 n7 k8 n8 k9 n9 at_ st:Int):
 DD (BC (AU (BL 8 7 1 8)) 0 true 0 (mV L P (AP n) pv port (AK k0 n0 2 n1 k2 n2 k3 n3 k4 n4 k5 n5 k6 n6 k7 n7 k8 n8 k9 n9) at_ st false 0))=
  some (seenV (.bool true) L P (AP n) pv port (AK k0 n0 2 n1 k2 n2 k3 n3 k4 n4 k5 n5 k6 n6 3 0 k8 n8 k9 n9) (Cp at_) (Cp st) false 0,[GS at_ n,GY L at_ (AU (BL 8 7 1 8))])/\
 BE (BC (AU (BL 8 7 1 8)) 0 true 0 (mV L P (AP n) pv port (AK k0 n0 2 n1 k2 n2 k3 n3 k4 n4 k5 n5 k6 n6 k7 n7 k8 n8 k9 n9) at_ st false 0)):=⟨by kernel_rfl,by unfold BE;kernel_rfl⟩
theorem uR(L P:List Value)(pa:Option Addr)(pn pc:Nat)(n:Nat)(port k0 n0 k1 n1 k2 n2 k3 n3 k4 n4 k5 n5 k6 n6 n7 k8 n8 k9 n9 at_ st o N:Int):
 DD (BC (AU (BL 4 2 7 o)) 0 true N (mV L P (AP n) (.slice pa pn pc) port (AK k0 n0 k1 n1 k2 n2 k3 n3 k4 n4 k5 n5 k6 n6 3 n7 k8 n8 k9 n9) at_ st false 0))=
  some (seenV (.bool true) L P (AP n) (.slice pa pn pc) port (AK k0 n0 k1 n1 1 N k3 n3 k4 n4 k5 n5 k6 n6 3 n7 k8 n8 k9 n9) (Cp at_) (Cp st) false 0,[GS at_ n,GY L at_ (AU (BL 4 2 7 o)),DT 80 [.slice pa pn pc, .int .i64 (Sh o), .int .i64 4] (.cells true P) (.tuple ⟨[.int .u64 N, .int .i64 0]⟩)])/\
 BE (BC (AU (BL 4 2 7 o)) 0 true N (mV L P (AP n) (.slice pa pn pc) port (AK k0 n0 k1 n1 k2 n2 k3 n3 k4 n4 k5 n5 k6 n6 3 n7 k8 n8 k9 n9) at_ st false 0)):=⟨by kernel_rfl,by unfold BE;kernel_rfl⟩
theorem kW(L P:List Value)(pv:Value)(n:Nat)(port k0 n0 k1 n1 k3 n3 k4 n4 k5 n5 k6 n6 k7 n7 k8 n8 k9 n9 at_ st a:Int):
 DD (BC (AU (Ci 4)) 0 true 0 (mV L P (AP n) pv port (AK k0 n0 k1 n1 1 a k3 n3 k4 n4 k5 n5 k6 n6 k7 n7 k8 n8 k9 n9) at_ st false 0))=
  some (seenV (.bool true) L P (AP n) pv port (AK k0 n0 k1 n1 1 (L5 (O1 a) 32) k3 n3 k4 n4 k5 n5 k6 n6 k7 n7 k8 n8 k9 n9) (Cp at_) (Cp st) false 0,[GS at_ n,GY L at_ (AU (Ci 4))])/\
 BE (BC (AU (Ci 4)) 0 true 0 (mV L P (AP n) pv port (AK k0 n0 k1 n1 1 a k3 n3 k4 n4 k5 n5 k6 n6 k7 n7 k8 n8 k9 n9) at_ st false 0)):=⟨by kernel_rfl,by unfold BE;kernel_rfl⟩
theorem Ud(L P:List Value)(pv:Value)(n:Nat)(port k0 n0 k1 n1 k3 n3 k4 n4 k5 n5 k6 n6 k7 n7 k8 n8 k9 n9 at_ st a imm o:Int):
 DD (BC (AU (BJ (DO 3 2 imm) o)) 0 false 0 (mV L P (AP n) pv port (AK k0 n0 k1 n1 1 a k3 n3 k4 n4 k5 n5 k6 n6 k7 n7 k8 n8 k9 n9) at_ st false 0))=
  some (seenV (.bool true) L P (AP n) pv port (AK k0 n0 k1 n1 1 a k3 n3 k4 n4 k5 n5 k6 n6 k7 n7 k8 n8 k9 n9) (Cp at_) (Cp st) false 0,[GS at_ n,GY L at_ (AU (BJ (DO 3 2 imm) o)),DT 87 [.int .i64 3, .bool true, .int .u64 a, .int .u64 (Ez imm)] (.cells true P) (.tuple ⟨[.bool false, .int .i64 0]⟩)])/\
 BE (BC (AU (BJ (DO 3 2 imm) o)) 0 false 0 (mV L P (AP n) pv port (AK k0 n0 k1 n1 1 a k3 n3 k4 n4 k5 n5 k6 n6 k7 n7 k8 n8 k9 n9) at_ st false 0)):=⟨by kernel_rfl,by unfold BE;kernel_rfl⟩
theorem Ue(L P:List Value)(pv:Value)(n:Nat)(port k0 n0 k1 n1 k3 n3 k4 n4 k5 n5 k6 n6 k7 n7 k8 n8 k9 n9 at_ st a imm o:Int):
 DD (BC (AU (BJ (DO 5 2 imm) o)) 0 true 0 (mV L P (AP n) pv port (AK k0 n0 k1 n1 1 a k3 n3 k4 n4 k5 n5 k6 n6 k7 n7 k8 n8 k9 n9) at_ st false 0))=
  some (seenV (.bool true) L P (AP n) pv port (AK k0 n0 k1 n1 1 a k3 n3 k4 n4 k5 n5 k6 n6 k7 n7 k8 n8 k9 n9) (IntKind.wrap .i64 (Int.add (Cp at_) (IntKind.wrap .i64 o))) (Cp st) false 0,[GS at_ n,GY L at_ (AU (BJ (DO 5 2 imm) o)),DT 87 [.int .i64 5, .bool true, .int .u64 a, .int .u64 (Ez imm)] (.cells true P) (.tuple ⟨[.bool true, .int .i64 0]⟩)])/\
 BE (BC (AU (BJ (DO 5 2 imm) o)) 0 true 0 (mV L P (AP n) pv port (AK k0 n0 k1 n1 1 a k3 n3 k4 n4 k5 n5 k6 n6 k7 n7 k8 n8 k9 n9) at_ st false 0)):=⟨by kernel_rfl,by unfold BE;kernel_rfl⟩
theorem Uf(L P:List Value)(pv:Value)(n:Nat)(port k0 n0 k1 n1 k2 n2 k3 n3 k4 n4 k5 n5 k6 n6 k7 n7 k9 n9 at_ st a imm o:Int):
 DD (BC (AU (BJ (DO 5 8 imm) o)) 0 false 0 (mV L P (AP n) pv port (AK k0 n0 k1 n1 k2 n2 k3 n3 k4 n4 k5 n5 k6 n6 k7 n7 1 a k9 n9) at_ st false 0))=
  some (seenV (.bool true) L P (AP n) pv port (AK k0 n0 k1 n1 k2 n2 k3 n3 k4 n4 k5 n5 k6 n6 k7 n7 1 a k9 n9) (Cp at_) (Cp st) false 0,[GS at_ n,GY L at_ (AU (BJ (DO 5 8 imm) o)),DT 87 [.int .i64 5, .bool true, .int .u64 a, .int .u64 (Ez imm)] (.cells true P) (.tuple ⟨[.bool false, .int .i64 0]⟩)])/\
 BE (BC (AU (BJ (DO 5 8 imm) o)) 0 false 0 (mV L P (AP n) pv port (AK k0 n0 k1 n1 k2 n2 k3 n3 k4 n4 k5 n5 k6 n6 k7 n7 1 a k9 n9) at_ st false 0)):=⟨by kernel_rfl,by unfold BE;kernel_rfl⟩
theorem Sj(L P:List Value)(pv:Value)(n:Nat)(port k0 n0 k1 n1 k2 n2 k3 n3 k4 n4 k5 n5 k6 n6 k7 n7 k9 n9 at_ st a imm o:Int):
 DD (BC (AU (BJ (DO 10 8 imm) o)) 0 true 0 (mV L P (AP n) pv port (AK k0 n0 k1 n1 k2 n2 k3 n3 k4 n4 k5 n5 k6 n6 k7 n7 1 a k9 n9) at_ st false 0))=
  some (seenV (.bool true) L P (AP n) pv port (AK k0 n0 k1 n1 k2 n2 k3 n3 k4 n4 k5 n5 k6 n6 k7 n7 1 a k9 n9) (IntKind.wrap .i64 (Int.add (Cp at_) (IntKind.wrap .i64 o))) (Cp st) false 0,[GS at_ n,GY L at_ (AU (BJ (DO 10 8 imm) o)),DT 87 [.int .i64 10, .bool true, .int .u64 a, .int .u64 (Ez imm)] (.cells true P) (.tuple ⟨[.bool true, .int .i64 0]⟩)])/\
 BE (BC (AU (BJ (DO 10 8 imm) o)) 0 true 0 (mV L P (AP n) pv port (AK k0 n0 k1 n1 k2 n2 k3 n3 k4 n4 k5 n5 k6 n6 k7 n7 1 a k9 n9) at_ st false 0)):=⟨by kernel_rfl,by unfold BE;kernel_rfl⟩
theorem Ug(L P:List Value)(pv:Value)(n:Nat)(port k0 n0 k1 n1 k3 n3 k4 n4 k5 n5 k6 n6 k7 n7 k8 n8 k9 n9 at_ st a imm o:Int):
 DD (BC (AU (BJ (DO 2 2 imm) o)) 0 false 0 (mV L P (AP n) pv port (AK k0 n0 k1 n1 1 a k3 n3 k4 n4 k5 n5 k6 n6 k7 n7 k8 n8 k9 n9) at_ st false 0))=
  some (seenV (.bool true) L P (AP n) pv port (AK k0 n0 k1 n1 1 a k3 n3 k4 n4 k5 n5 k6 n6 k7 n7 k8 n8 k9 n9) (Cp at_) (Cp st) false 0,[GS at_ n,GY L at_ (AU (BJ (DO 2 2 imm) o)),DT 87 [.int .i64 2, .bool true, .int .u64 a, .int .u64 (Ez imm)] (.cells true P) (.tuple ⟨[.bool false, .int .i64 0]⟩)])/\
 BE (BC (AU (BJ (DO 2 2 imm) o)) 0 false 0 (mV L P (AP n) pv port (AK k0 n0 k1 n1 1 a k3 n3 k4 n4 k5 n5 k6 n6 k7 n7 k8 n8 k9 n9) at_ st false 0)):=⟨by kernel_rfl,by unfold BE;kernel_rfl⟩
theorem Uh(L P:List Value)(pv:Value)(n:Nat)(port k0 n0 k1 n1 k4 n4 k5 n5 k6 n6 k7 n7 k8 n8 k9 n9 at_ st a c o:Int):
 DD (BC (AU (BJ (Ey 10) o)) 0 true 0 (mV L P (AP n) pv port (AK k0 n0 k1 n1 1 a 1 c k4 n4 k5 n5 k6 n6 k7 n7 k8 n8 k9 n9) at_ st false 0))=
  some (seenV (.bool true) L P (AP n) pv port (AK k0 n0 k1 n1 1 a 1 c k4 n4 k5 n5 k6 n6 k7 n7 k8 n8 k9 n9) (IntKind.wrap .i64 (Int.add (Cp at_) (IntKind.wrap .i64 o))) (Cp st) false 0,[GS at_ n,GY L at_ (AU (BJ (Ey 10) o)),DT 87 [.int .i64 10, .bool true, .int .u64 a, .int .u64 c] (.cells true P) (.tuple ⟨[.bool true, .int .i64 0]⟩)])/\
 BE (BC (AU (BJ (Ey 10) o)) 0 true 0 (mV L P (AP n) pv port (AK k0 n0 k1 n1 1 a 1 c k4 n4 k5 n5 k6 n6 k7 n7 k8 n8 k9 n9) at_ st false 0)):=⟨by kernel_rfl,by unfold BE;kernel_rfl⟩
theorem YZ(L P:List Value)(pv:Value)(n:Nat)(port k0 n0 k1 n1 k4 n4 k5 n5 k6 n6 k7 n7 k8 n8 k9 n9 at_ st a c o:Int):
 DD (BC (AU (BJ (Ey 2) o)) 0 false 0 (mV L P (AP n) pv port (AK k0 n0 k1 n1 1 a 1 c k4 n4 k5 n5 k6 n6 k7 n7 k8 n8 k9 n9) at_ st false 0))=
  some (seenV (.bool true) L P (AP n) pv port (AK k0 n0 k1 n1 1 a 1 c k4 n4 k5 n5 k6 n6 k7 n7 k8 n8 k9 n9) (Cp at_) (Cp st) false 0,[GS at_ n,GY L at_ (AU (BJ (Ey 2) o)),DT 87 [.int .i64 2, .bool true, .int .u64 a, .int .u64 c] (.cells true P) (.tuple ⟨[.bool false, .int .i64 0]⟩)])/\
 BE (BC (AU (BJ (Ey 2) o)) 0 false 0 (mV L P (AP n) pv port (AK k0 n0 k1 n1 1 a 1 c k4 n4 k5 n5 k6 n6 k7 n7 k8 n8 k9 n9) at_ st false 0)):=⟨by kernel_rfl,by unfold BE;kernel_rfl⟩
theorem kX(L P:List Value)(pv:Value)(n:Nat)(port k0 n0 k1 n1 k2 n2 k3 n3 k4 n4 k5 n5 k6 n6 k7 n7 k8 n8 k9 n9 at_ st l h:Int):
 DD (BC (AU ⟨24,3,0,0,l⟩) h true 0 (mV L P (AP n) pv port (AK k0 n0 k1 n1 k2 n2 k3 n3 k4 n4 k5 n5 k6 n6 k7 n7 k8 n8 k9 n9) at_ st false 0))=
  some (seenV (.bool true) L P (AP n) pv port (AK k0 n0 k1 n1 k2 n2 1 (iu (IntKind.wrap .u64 (IntKind.wrap .u32 l)) (Ny (IntKind.wrap .u64 (IntKind.wrap .u32 h)) 32)) k4 n4 k5 n5 k6 n6 k7 n7 k8 n8 k9 n9) (IntKind.wrap .i64 (Int.add at_ 2)) (Cp st) false 0,[GS at_ n,GY L at_ (AU ⟨24,3,0,0,l⟩),GS (Cp at_) n,H.ldOk (.cells true L) (Nat.add (Nat.add 0 (Nat.mul (Cp at_).toNat 5)) 4) false 1 (.int .i32 h)])/\
 BE (BC (AU ⟨24,3,0,0,l⟩) h true 0 (mV L P (AP n) pv port (AK k0 n0 k1 n1 k2 n2 k3 n3 k4 n4 k5 n5 k6 n6 k7 n7 k8 n8 k9 n9) at_ st false 0)):=⟨by kernel_rfl,by unfold BE;kernel_rfl⟩
end
end Go.Proofs.YtgjflcgmieiafaaGreatDoor
namespace Go.Proofs.YtgjflcgmieiafaaGreatDoor
open Go Go.DI Go.DI.Kit Go.Proofs Go.Cmp
noncomputable section
set_option maxHeartbeats 4000000
theorem q9(L P:List Value)(pv:Value)(n:Nat)(port k0 n0 k1 n1 k3 n3 k4 n4 k5 n5 k6 n6 k7 n7 k8 n8 k9 n9 at_ st a imm:Int):
 DD (BC (AU (DU 5 2 imm)) 0 true 0 (mV L P (AP n) pv port (AK k0 n0 k1 n1 1 a k3 n3 k4 n4 k5 n5 k6 n6 k7 n7 k8 n8 k9 n9) at_ st false 0))=
  some (seenV (.bool true) L P (AP n) pv port (AK k0 n0 k1 n1 1 (MF a (Ez imm)) k3 n3 k4 n4 k5 n5 k6 n6 k7 n7 k8 n8 k9 n9) (Cp at_) (Cp st) false 0,[GS at_ n,GY L at_ (AU (DU 5 2 imm))])/\
 BE (BC (AU (DU 5 2 imm)) 0 true 0 (mV L P (AP n) pv port (AK k0 n0 k1 n1 1 a k3 n3 k4 n4 k5 n5 k6 n6 k7 n7 k8 n8 k9 n9) at_ st false 0)):=⟨by kernel_rfl,by unfold BE;kernel_rfl⟩
theorem Y0(L P:List Value)(pv:Value)(n:Nat)(port k0 n0 n1 k2 n2 k3 n3 k4 n4 k5 n5 k6 n6 k7 n7 k8 n8 k9 n9 at_ st:Int):
 DD (BC (AU (Bj 11 6 1)) 0 true 0 (mV L P (AP n) pv port (AK k0 n0 2 n1 k2 n2 k3 n3 k4 n4 k5 n5 k6 n6 k7 n7 k8 n8 k9 n9) at_ st false 0))=
  some (seenV (.bool true) L P (AP n) pv port (AK k0 n0 2 n1 k2 n2 k3 n3 k4 n4 k5 n5 2 n1 k7 n7 k8 n8 k9 n9) (Cp at_) (Cp st) false 0,[GS at_ n,GY L at_ (AU (Bj 11 6 1))])/\
 BE (BC (AU (Bj 11 6 1)) 0 true 0 (mV L P (AP n) pv port (AK k0 n0 2 n1 k2 n2 k3 n3 k4 n4 k5 n5 k6 n6 k7 n7 k8 n8 k9 n9) at_ st false 0)):=⟨by kernel_rfl,by unfold BE;kernel_rfl⟩
theorem Y1(L P:List Value)(pv:Value)(n:Nat)(port k0 n0 k1 n1 k2 n2 k3 n3 k4 n4 k5 n5 k6 n6 k7 n7 n8 k9 n9 at_ st:Int):
 DD (BC (AU (Bj 11 2 8)) 0 true 0 (mV L P (AP n) pv port (AK k0 n0 k1 n1 k2 n2 k3 n3 k4 n4 k5 n5 k6 n6 k7 n7 3 n8 k9 n9) at_ st false 0))=
  some (seenV (.bool true) L P (AP n) pv port (AK k0 n0 k1 n1 3 n8 k3 n3 k4 n4 k5 n5 k6 n6 k7 n7 3 n8 k9 n9) (Cp at_) (Cp st) false 0,[GS at_ n,GY L at_ (AU (Bj 11 2 8))])/\
 BE (BC (AU (Bj 11 2 8)) 0 true 0 (mV L P (AP n) pv port (AK k0 n0 k1 n1 k2 n2 k3 n3 k4 n4 k5 n5 k6 n6 k7 n7 3 n8 k9 n9) at_ st false 0)):=⟨by kernel_rfl,by unfold BE;kernel_rfl⟩
theorem kY(L P:List Value)(pa:Option Addr)(pn pc:Nat)(n:Nat)(port k0 n0 k1 n1 k2 n2 k3 n3 k4 n4 k5 n5 n6 k7 n7 k8 n8 k9 n9 at_ st:Int):
 DD (BC (AU (BL 4 8 6 0)) 0 true 0 (mV L P (AP n) (.slice pa pn pc) port (AK k0 n0 k1 n1 k2 n2 k3 n3 k4 n4 k5 n5 2 n6 k7 n7 k8 n8 k9 n9) at_ st false 0))=
  some (seenV (.bool true) L P (AP n) (.slice pa pn pc) port (AK k0 n0 k1 n1 k2 n2 k3 n3 k4 n4 k5 n5 2 n6 k7 n7 1 (IntKind.wrap .u64 (Int.ofNat pn)) k9 n9) (Cp at_) (Cp st) false 0,[GS at_ n,GY L at_ (AU (BL 4 8 6 0))])/\
 BE (BC (AU (BL 4 8 6 0)) 0 true 0 (mV L P (AP n) (.slice pa pn pc) port (AK k0 n0 k1 n1 k2 n2 k3 n3 k4 n4 k5 n5 2 n6 k7 n7 k8 n8 k9 n9) at_ st false 0)):=⟨by kernel_rfl,by unfold BE;kernel_rfl⟩
theorem uS(L P:List Value)(pa:Option Addr)(pn pc:Nat)(n:Nat)(port k0 n0 k1 n1 k2 n2 k3 n3 k4 n4 k5 n5 k6 n6 n7 k8 n8 k9 n9 at_ st o N:Int):
 DD (BC (AU (BL 1 2 7 o)) 0 true N (mV L P (AP n) (.slice pa pn pc) port (AK k0 n0 k1 n1 k2 n2 k3 n3 k4 n4 k5 n5 k6 n6 3 n7 k8 n8 k9 n9) at_ st false 0))=
  some (seenV (.bool true) L P (AP n) (.slice pa pn pc) port (AK k0 n0 k1 n1 1 N k3 n3 k4 n4 k5 n5 k6 n6 3 n7 k8 n8 k9 n9) (Cp at_) (Cp st) false 0,[GS at_ n,GY L at_ (AU (BL 1 2 7 o)),DT 80 [.slice pa pn pc, .int .i64 (Sh o), .int .i64 1] (.cells true P) (.tuple ⟨[.int .u64 N, .int .i64 0]⟩)])/\
 BE (BC (AU (BL 1 2 7 o)) 0 true N (mV L P (AP n) (.slice pa pn pc) port (AK k0 n0 k1 n1 k2 n2 k3 n3 k4 n4 k5 n5 k6 n6 3 n7 k8 n8 k9 n9) at_ st false 0)):=⟨by kernel_rfl,by unfold BE;kernel_rfl⟩
theorem uT(L P:List Value)(pa:Option Addr)(pn pc:Nat)(n:Nat)(port k0 n0 k1 n1 k2 n2 k3 n3 k4 n4 k5 n5 k6 n6 n7 k8 n8 k9 n9 at_ st o N:Int):
 DD (BC (AU (BL 8 2 7 o)) 0 true N (mV L P (AP n) (.slice pa pn pc) port (AK k0 n0 k1 n1 k2 n2 k3 n3 k4 n4 k5 n5 k6 n6 3 n7 k8 n8 k9 n9) at_ st false 0))=
  some (seenV (.bool true) L P (AP n) (.slice pa pn pc) port (AK k0 n0 k1 n1 1 N k3 n3 k4 n4 k5 n5 k6 n6 3 n7 k8 n8 k9 n9) (Cp at_) (Cp st) false 0,[GS at_ n,GY L at_ (AU (BL 8 2 7 o)),DT 80 [.slice pa pn pc, .int .i64 (Sh o), .int .i64 8] (.cells true P) (.tuple ⟨[.int .u64 N, .int .i64 0]⟩)])/\
 BE (BC (AU (BL 8 2 7 o)) 0 true N (mV L P (AP n) (.slice pa pn pc) port (AK k0 n0 k1 n1 k2 n2 k3 n3 k4 n4 k5 n5 k6 n6 3 n7 k8 n8 k9 n9) at_ st false 0)):=⟨by kernel_rfl,by unfold BE;kernel_rfl⟩
theorem kZ(L P:List Value)(pv:Value)(n:Nat)(port k0 n0 k1 n1 k3 n3 k4 n4 k5 n5 k6 n6 k7 n7 k8 n8 k9 n9 at_ st a:Int):
 DD (BC (AU (Ci 8)) 0 true 0 (mV L P (AP n) pv port (AK k0 n0 k1 n1 1 a k3 n3 k4 n4 k5 n5 k6 n6 k7 n7 k8 n8 k9 n9) at_ st false 0))=
  some (seenV (.bool true) L P (AP n) pv port (AK k0 n0 k1 n1 1 (L5 (O1 a) 0) k3 n3 k4 n4 k5 n5 k6 n6 k7 n7 k8 n8 k9 n9) (Cp at_) (Cp st) false 0,[GS at_ n,GY L at_ (AU (Ci 8))])/\
 BE (BC (AU (Ci 8)) 0 true 0 (mV L P (AP n) pv port (AK k0 n0 k1 n1 1 a k3 n3 k4 n4 k5 n5 k6 n6 k7 n7 k8 n8 k9 n9) at_ st false 0)):=⟨by kernel_rfl,by unfold BE;kernel_rfl⟩
theorem Ui(L P:List Value)(pv:Value)(n:Nat)(port k0 n0 k1 n1 k2 n2 k3 n3 k4 n4 k5 n5 k6 n6 k7 n7 k9 n9 at_ st a imm o:Int):
 DD (BC (AU (BJ (DO 3 8 imm) o)) 0 true 0 (mV L P (AP n) pv port (AK k0 n0 k1 n1 k2 n2 k3 n3 k4 n4 k5 n5 k6 n6 k7 n7 1 a k9 n9) at_ st false 0))=
  some (seenV (.bool true) L P (AP n) pv port (AK k0 n0 k1 n1 k2 n2 k3 n3 k4 n4 k5 n5 k6 n6 k7 n7 1 a k9 n9) (IntKind.wrap .i64 (Int.add (Cp at_) (IntKind.wrap .i64 o))) (Cp st) false 0,[GS at_ n,GY L at_ (AU (BJ (DO 3 8 imm) o)),DT 87 [.int .i64 3, .bool true, .int .u64 a, .int .u64 (Ez imm)] (.cells true P) (.tuple ⟨[.bool true, .int .i64 0]⟩)])/\
 BE (BC (AU (BJ (DO 3 8 imm) o)) 0 true 0 (mV L P (AP n) pv port (AK k0 n0 k1 n1 k2 n2 k3 n3 k4 n4 k5 n5 k6 n6 k7 n7 1 a k9 n9) at_ st false 0)):=⟨by kernel_rfl,by unfold BE;kernel_rfl⟩
theorem Uj(L P:List Value)(pv:Value)(n:Nat)(port k0 n0 k1 n1 k3 n3 k4 n4 k5 n5 k6 n6 k7 n7 k8 n8 k9 n9 at_ st a imm o:Int):
 DD (BC (AU (BJ (DO 5 2 imm) o)) 0 false 0 (mV L P (AP n) pv port (AK k0 n0 k1 n1 1 a k3 n3 k4 n4 k5 n5 k6 n6 k7 n7 k8 n8 k9 n9) at_ st false 0))=
  some (seenV (.bool true) L P (AP n) pv port (AK k0 n0 k1 n1 1 a k3 n3 k4 n4 k5 n5 k6 n6 k7 n7 k8 n8 k9 n9) (Cp at_) (Cp st) false 0,[GS at_ n,GY L at_ (AU (BJ (DO 5 2 imm) o)),DT 87 [.int .i64 5, .bool true, .int .u64 a, .int .u64 (Ez imm)] (.cells true P) (.tuple ⟨[.bool false, .int .i64 0]⟩)])/\
 BE (BC (AU (BJ (DO 5 2 imm) o)) 0 false 0 (mV L P (AP n) pv port (AK k0 n0 k1 n1 1 a k3 n3 k4 n4 k5 n5 k6 n6 k7 n7 k8 n8 k9 n9) at_ st false 0)):=⟨by kernel_rfl,by unfold BE;kernel_rfl⟩
theorem Sk(L P:List Value)(pv:Value)(n:Nat)(port k0 n0 k1 n1 k3 n3 k4 n4 k5 n5 k6 n6 k7 n7 k8 n8 k9 n9 at_ st a imm o:Int):
 DD (BC (AU (BJ (DO 10 2 imm) o)) 0 true 0 (mV L P (AP n) pv port (AK k0 n0 k1 n1 1 a k3 n3 k4 n4 k5 n5 k6 n6 k7 n7 k8 n8 k9 n9) at_ st false 0))=
  some (seenV (.bool true) L P (AP n) pv port (AK k0 n0 k1 n1 1 a k3 n3 k4 n4 k5 n5 k6 n6 k7 n7 k8 n8 k9 n9) (IntKind.wrap .i64 (Int.add (Cp at_) (IntKind.wrap .i64 o))) (Cp st) false 0,[GS at_ n,GY L at_ (AU (BJ (DO 10 2 imm) o)),DT 87 [.int .i64 10, .bool true, .int .u64 a, .int .u64 (Ez imm)] (.cells true P) (.tuple ⟨[.bool true, .int .i64 0]⟩)])/\
 BE (BC (AU (BJ (DO 10 2 imm) o)) 0 true 0 (mV L P (AP n) pv port (AK k0 n0 k1 n1 1 a k3 n3 k4 n4 k5 n5 k6 n6 k7 n7 k8 n8 k9 n9) at_ st false 0)):=⟨by kernel_rfl,by unfold BE;kernel_rfl⟩
theorem Sl(L P:List Value)(pv:Value)(n:Nat)(port k0 n0 k1 n1 k2 n2 k3 n3 k4 n4 k5 n5 k6 n6 k7 n7 k9 n9 at_ st a imm o:Int):
 DD (BC (AU (BJ (DO 10 8 imm) o)) 0 false 0 (mV L P (AP n) pv port (AK k0 n0 k1 n1 k2 n2 k3 n3 k4 n4 k5 n5 k6 n6 k7 n7 1 a k9 n9) at_ st false 0))=
  some (seenV (.bool true) L P (AP n) pv port (AK k0 n0 k1 n1 k2 n2 k3 n3 k4 n4 k5 n5 k6 n6 k7 n7 1 a k9 n9) (Cp at_) (Cp st) false 0,[GS at_ n,GY L at_ (AU (BJ (DO 10 8 imm) o)),DT 87 [.int .i64 10, .bool true, .int .u64 a, .int .u64 (Ez imm)] (.cells true P) (.tuple ⟨[.bool false, .int .i64 0]⟩)])/\
 BE (BC (AU (BJ (DO 10 8 imm) o)) 0 false 0 (mV L P (AP n) pv port (AK k0 n0 k1 n1 k2 n2 k3 n3 k4 n4 k5 n5 k6 n6 k7 n7 1 a k9 n9) at_ st false 0)):=⟨by kernel_rfl,by unfold BE;kernel_rfl⟩
theorem Uk(L P:List Value)(pv:Value)(n:Nat)(port k0 n0 k1 n1 k2 n2 k3 n3 k4 n4 k5 n5 k6 n6 k7 n7 k9 n9 at_ st a imm o:Int):
 DD (BC (AU (BJ (DO 2 8 imm) o)) 0 true 0 (mV L P (AP n) pv port (AK k0 n0 k1 n1 k2 n2 k3 n3 k4 n4 k5 n5 k6 n6 k7 n7 1 a k9 n9) at_ st false 0))=
  some (seenV (.bool true) L P (AP n) pv port (AK k0 n0 k1 n1 k2 n2 k3 n3 k4 n4 k5 n5 k6 n6 k7 n7 1 a k9 n9) (IntKind.wrap .i64 (Int.add (Cp at_) (IntKind.wrap .i64 o))) (Cp st) false 0,[GS at_ n,GY L at_ (AU (BJ (DO 2 8 imm) o)),DT 87 [.int .i64 2, .bool true, .int .u64 a, .int .u64 (Ez imm)] (.cells true P) (.tuple ⟨[.bool true, .int .i64 0]⟩)])/\
 BE (BC (AU (BJ (DO 2 8 imm) o)) 0 true 0 (mV L P (AP n) pv port (AK k0 n0 k1 n1 k2 n2 k3 n3 k4 n4 k5 n5 k6 n6 k7 n7 1 a k9 n9) at_ st false 0)):=⟨by kernel_rfl,by unfold BE;kernel_rfl⟩
theorem Ul(L P:List Value)(pv:Value)(n:Nat)(port k0 n0 k1 n1 k4 n4 k5 n5 k6 n6 k7 n7 k8 n8 k9 n9 at_ st a c o:Int):
 DD (BC (AU (BJ (Ey 10) o)) 0 false 0 (mV L P (AP n) pv port (AK k0 n0 k1 n1 1 a 1 c k4 n4 k5 n5 k6 n6 k7 n7 k8 n8 k9 n9) at_ st false 0))=
  some (seenV (.bool true) L P (AP n) pv port (AK k0 n0 k1 n1 1 a 1 c k4 n4 k5 n5 k6 n6 k7 n7 k8 n8 k9 n9) (Cp at_) (Cp st) false 0,[GS at_ n,GY L at_ (AU (BJ (Ey 10) o)),DT 87 [.int .i64 10, .bool true, .int .u64 a, .int .u64 c] (.cells true P) (.tuple ⟨[.bool false, .int .i64 0]⟩)])/\
 BE (BC (AU (BJ (Ey 10) o)) 0 false 0 (mV L P (AP n) pv port (AK k0 n0 k1 n1 1 a 1 c k4 n4 k5 n5 k6 n6 k7 n7 k8 n8 k9 n9) at_ st false 0)):=⟨by kernel_rfl,by unfold BE;kernel_rfl⟩
theorem qa(L P:List Value)(pv:Value)(n:Nat)(port k0 n0 k1 n1 k2 n2 k3 n3 k4 n4 k5 n5 k6 n6 k7 n7 k8 n8 k9 n9 at_ st o:Int):
 DD (BC (AU (BJ CC o)) 0 true 0 (mV L P (AP n) pv port (AK k0 n0 k1 n1 k2 n2 k3 n3 k4 n4 k5 n5 k6 n6 k7 n7 k8 n8 k9 n9) at_ st false 0))=
  some (seenV (.bool true) L P (AP n) pv port (AK k0 n0 k1 n1 k2 n2 k3 n3 k4 n4 k5 n5 k6 n6 k7 n7 k8 n8 k9 n9) (IntKind.wrap .i64 (Int.add (Cp at_) (IntKind.wrap .i64 o))) (Cp st) false 0,[GS at_ n,GY L at_ (AU (BJ CC o))])/\
 BE (BC (AU (BJ CC o)) 0 true 0 (mV L P (AP n) pv port (AK k0 n0 k1 n1 k2 n2 k3 n3 k4 n4 k5 n5 k6 n6 k7 n7 k8 n8 k9 n9) at_ st false 0)):=⟨by kernel_rfl,by unfold BE;kernel_rfl⟩
end
end Go.Proofs.YtgjflcgmieiafaaGreatDoor
namespace Go.Cmp
def Ks(x:BitVec 64):BitVec 64:=
 let x:=(x >>> 8 &&& 0x00ff00ff00ff00ff#64)|||((x &&& 0x00ff00ff00ff00ff#64)<<<8)
 let x:=(x >>> 16 &&& 0x0000ffff0000ffff#64)|||((x &&& 0x0000ffff0000ffff#64)<<<16)
 x >>> 32|||x <<<32
theorem gA(x:BitVec 64):∀i,i<64->(Ks x).getLsbD i=x.getLsbD (8*(7 - i / 8)+i % 8):=by
 intro i hi
 have h:i=0\/i=1\/i=2\/i=3\/i=4\/i=5\/i=6\/i=7\/i=8\/i=9\/i=10\/i=11\/i=12\/i=13\/i=14\/i=15\/i=16\/i=17\/i=18\/i=19\/i=20\/i=21\/i=22\/i=23\/i=24\/i=25\/i=26\/i=27\/i=28\/i=29\/i=30\/i=31\/i=32\/i=33\/i=34\/i=35\/i=36\/i=37\/i=38\/i=39\/i=40\/i=41\/i=42\/i=43\/i=44\/i=45\/i=46\/i=47\/i=48\/i=49\/i=50\/i=51\/i=52\/i=53\/i=54\/i=55\/i=56\/i=57\/i=58\/i=59\/i=60\/i=61\/i=62\/i=63:=by omega
 rcases h with rfl|rfl|rfl|rfl|rfl|rfl|rfl|rfl|rfl|rfl|rfl|rfl|rfl|rfl|rfl|rfl|rfl|rfl|rfl|rfl|rfl|rfl|rfl|rfl|rfl|rfl|rfl|rfl|rfl|rfl|rfl|rfl|rfl|rfl|rfl|rfl|rfl|rfl|rfl|rfl|rfl|rfl|rfl|rfl|rfl|rfl|rfl|rfl|rfl|rfl|rfl|rfl|rfl|rfl|rfl|rfl|rfl|rfl|rfl|rfl|rfl|rfl|rfl|rfl<;>simp[Ks]
theorem tb(n b i:Nat)(hb:b<256):(n*256+b).testBit i=if i<8 then b.testBit i else n.testBit (i - 8):=by
 have:=Nat.testBit_two_pow_mul_add (a:=n) (b:=b) (i:=8) (by simpa using hb) i
 rw[show n*256+b=2 ^ 8*n+b by omega,this]
theorem bb(n j i:Nat):(n / 2 ^ j % 256).testBit i=(decide (i<8) && n.testBit (j+i)):=by
 rw[show(256:Nat)=2 ^ 8 by rfl,Nat.testBit_mod_two_pow,Nat.testBit_div_two_pow]
 congr 2
 omega
def KE(n:Nat):Nat:=(((((((n % 256)*256+n / 2 ^ 8 % 256)*256+n / 2 ^ 16 % 256)*256+n / 2 ^ 24 % 256)*256+n / 2 ^ 32 % 256)*256+n / 2 ^ 40 % 256)*256+n / 2 ^ 48 % 256)*256+n / 2 ^ 56 % 256
theorem Z5(n i:Nat)(hi:i<64):(KE n).testBit i=n.testBit (8*(7 - i / 8)+i % 8):=by
 unfold KE
 have b0:∀k,(n % 256).testBit k=(decide (k<8) && n.testBit k):=λk=>by
  have:=bb n 0 k;simpa using this
 repeat rw[tb _ _ _ (Nat.mod_lt _ (by decide))]
 simp only[bb,b0]
 (repeat' split)<;>(rw[decide_eq_true (by omega),Bool.true_and];congr 1;omega)
theorem gB(x:BitVec 64):(Ks x).toNat=KE x.toNat:=by
 apply Nat.eq_of_testBit_eq
 intro i
 by_cases hi:i<64
 ·rw[Z5 _ _ hi];exact gA x i hi
 ·have h1:(Ks x).toNat<2 ^ 64:=(Ks x).isLt;have h2:KE x.toNat<2 ^ 64:=by unfold KE;omega
  rw[Nat.testBit_lt_two_pow (Nat.lt_of_lt_of_le h1 (Nat.pow_le_pow_right (by decide) (by omega))),Nat.testBit_lt_two_pow (Nat.lt_of_lt_of_le h2 (Nat.pow_le_pow_right (by decide) (by omega)))]
end Go.Cmp
namespace Go.Cmp
open Go Go.DI
set_option maxRecDepth 100000
theorem re{n:Nat}(h:n<65536):KE n / 2 ^ 48=n % 256*256+n / 256:=by unfold KE;omega
theorem rh{n:Nat}(h:n<4294967296):KE n / 2 ^ 32=((n % 256*256+n / 256 % 256)*256+n / 65536 % 256)*256+n / 16777216:=by
 unfold KE
 have h0:n / 2 ^ 32 % 256=0:=by omega
 have h1:n / 2 ^ 40 % 256=0:=by omega
 have h2:n / 2 ^ 48 % 256=0:=by omega
 have h3:n / 2 ^ 56 % 256=0:=by omega
 have h4:n / 2 ^ 24 % 256=n / 16777216:=by omega
 rw[h0,h1,h2,h3,h4,show n / 2 ^ 16=n / 65536 from rfl,show n / 2 ^ 8=n / 256 from rfl]
 generalize ((n % 256*256+n / 256 % 256)*256+n / 65536 % 256)*256+n / 16777216=a
 omega
theorem nJ{n:Nat}(h:n<65536):Fi 2 (n:Int)=((KE n / 2 ^ 48:Nat):Int):=by
 rw[re h]
 have e:Fi 2 (n:Int)=256*(256*0+(n:Int) % 256)+(n:Int) / 256 % 256:=rfl
 rw[e];omega
theorem nK{n:Nat}(h:n<4294967296):Fi 4 (n:Int)=((KE n / 2 ^ 32:Nat):Int):=by
 rw[rh h]
 have e:Fi 4 (n:Int)=256*(256*(256*(256*0+(n:Int) % 256)+(n:Int) / 256 % 256)+(n:Int) / 256 / 256 % 256)+(n:Int) / 256 / 256 / 256 % 256:=rfl
 have h1:(n:Int) / 256 / 256=(n:Int) / 65536:=by omega
 have h2:(n:Int) / 65536 / 256=(n:Int) / 16777216:=by omega
 have n1:n / 256 / 256=n / 65536:=by omega
 have n2:n / 65536 / 256=n / 16777216:=by omega
 have n3:n / 16777216 / 256=0:=by omega
 have n4:(n:Int) / 16777216 / 256=0:=by omega
 rw[e,h1,h2]
 omega
theorem nL{n:Nat}(h:n<18446744073709551616):Fi 8 (n:Int)=((KE n / 2 ^ 0:Nat):Int):=by
 have e:Fi 8 (n:Int)=256*(256*(256*(256*(256*(256*(256*(256*0+(n:Int) % 256)+(n:Int) / 256 % 256)+(n:Int) / 256 / 256 % 256)+(n:Int) / 256 / 256 / 256 % 256)+(n:Int) / 256 / 256 / 256 / 256 % 256)+(n:Int) / 256 / 256 / 256 / 256 / 256 % 256)+(n:Int) / 256 / 256 / 256 / 256 / 256 / 256 % 256)+(n:Int) / 256 / 256 / 256 / 256 / 256 / 256 / 256 % 256:=rfl
 have e2:KE n / 2 ^ 0=(((((((n % 256)*256+n / 256 % 256)*256+n / 256 / 256 % 256)*256+n / 256 / 256 / 256 % 256)*256+n / 256 / 256 / 256 / 256 % 256)*256+n / 256 / 256 / 256 / 256 / 256 % 256)*256+n / 256 / 256 / 256 / 256 / 256 / 256 % 256)*256+n / 256 / 256 / 256 / 256 / 256 / 256 / 256 % 256:=by
  have q2:n / 2 ^ 16=n / 2 ^ 8 / 256:=by rw[Nat.div_div_eq_div_mul]
  have q3:n / 2 ^ 24=n / 2 ^ 16 / 256:=by rw[Nat.div_div_eq_div_mul]
  have q4:n / 2 ^ 32=n / 2 ^ 24 / 256:=by rw[Nat.div_div_eq_div_mul]
  have q5:n / 2 ^ 40=n / 2 ^ 32 / 256:=by rw[Nat.div_div_eq_div_mul]
  have q6:n / 2 ^ 48=n / 2 ^ 40 / 256:=by rw[Nat.div_div_eq_div_mul]
  have q7:n / 2 ^ 56=n / 2 ^ 48 / 256:=by rw[Nat.div_div_eq_div_mul]
  rw[Nat.pow_zero,Nat.div_one];unfold KE;rw[q7,q6,q5,q4,q3,q2]
 rw[e,e2]
 push_cast
 omega
theorem RC{z:Int}{n:Nat}(hz:z=2\/z=4\/z=8)(h:(n:Int)<256 ^ z.toNat):Fi z (n:Int)=(((Ks (BitVec.ofNat 64 n)).toNat / 2 ^ (64 - 8*z.toNat):Nat):Int):=by
 have hn:n<18446744073709551616:=by
  rcases hz with rfl|rfl|rfl
  ·have:(n:Int)<65536:=h;omega
  ·have:(n:Int)<4294967296:=h;omega
  ·have:(n:Int)<18446744073709551616:=h;omega
 rw[gB,BitVec.toNat_ofNat,Nat.mod_eq_of_lt (by simpa using hn)]
 rcases hz with rfl|rfl|rfl
 ·exact nJ (by have:(n:Int)<65536:=h;omega)
 ·exact nK (by have:(n:Int)<4294967296:=h;omega)
 ·exact nL hn
end Go.Cmp
namespace Go.Proofs.YtgjflcgmieiafaaGreatDoor
open Go Go.DI Go.DI.Kit Go.Proofs Go.Cmp
noncomputable section
theorem cH{a:List Value}{b:Bool}(h:K5 a b)(M:Mem):DH Tryz.prog kp 1 20 87 a M=some (.tuple ⟨[.bool b, .int .i64 0]⟩,M):=by
 unfold K5 at h
 split at h
 ·rename_i op x y;obtain⟨hop,rfl⟩:=h
  have key:∀w:Bool,(∀q:Value->Mem->Option (Value×Mem),Y.callK Tryz.prog kp 1 20 87 [.int .i64 op, .bool true, .int .u64 x, .int .u64 y] M q=PT w M q)->w=DA op x y->DH Tryz.prog kp 1 20 87 [.int .i64 op, .bool true, .int .u64 x, .int .u64 y] M=some (.tuple ⟨[.bool (DA op x y), .int .i64 0]⟩,M):=by
   intro w hw e;have h1:=hw λv m=>some (v,m);rw[Y.callK_eq]at h1;have h2:PT w M (λv m=>some (v,m))=some (.tuple ⟨[.bool w, .int .i64 0]⟩,M):=by cases w<;>rfl
   rw[h2]at h1;cases hc:DH Tryz.prog kp 1 20 87 [.int .i64 op, .bool true, .int .u64 x, .int .u64 y] M with
   |none=>rw[hc]at h1;cases h1
   |some r=>
    obtain⟨v,m⟩:=r;rw[hc]at h1;rw[←e];exact h1
  rcases hop with rfl|rfl|rfl|rfl
  ·refine key _ (λq=>ig x y M q) ?_;unfold DA;by_cases hxy:x<y
   ·rw[Ef hxy];simp;omega
   ·rw[Cg hxy];simp;omega
  ·refine key _ (λq=>ij x y M q) ?_;unfold DA;by_cases hxy:x=y
   ·rw[Bp hxy];simp[hxy]
   ·rw[Bs hxy];simp[hxy]
  ·refine key _ (λq=>bY x y M q) ?_;unfold DA;by_cases hxy:x<y
   ·rw[Ef hxy];simp[hxy]
   ·rw[Cg hxy];simp[hxy]
  ·refine key _ (λq=>iq x y M q) ?_;unfold DA;by_cases hxy:y<x
   ·rw[Ef hxy];simp[hxy]
   ·rw[Cg hxy];simp[hxy]
 ·cases h
theorem U1{a:List Value}{b c:Bool}(h:K5 a b)(k:K5 a c):b=c:=by
 unfold K5 at h k
 split at h
 ·rw[h.2,k.2]
 ·cases h
theorem OF:∀{a b:List Int},AN a=AN b->a=b
 | [],[],_=>rfl
 | [],_::_,h=>by simp[AN]at h
 |_::_,[],h=>by simp[AN]at h
 |x::a,y::b,h=>by
  simp only[AN,List.map_cons,List.cons.injEq,Value.int.injEq,true_and]at h;rw[h.1,OF h.2]
theorem YJ{a:List Value}{x:BI}{N N':Int}(h:SP a x N)(k:SP a x N'):N=N':=by
 unfold SP at h k
 split at h
 ·obtain⟨pk,h1,rfl⟩:=h;obtain⟨pk',k1,rfl⟩:=k;obtain⟨o,ho⟩:=h1.blk;obtain⟨o',ho'⟩:=k1.blk;rw[ho]at ho';simp only[BI.cells.injEq]at ho';rw[OF ho'.2]
 ·cases h
open Classical in
def oG:C1:=λf a m=>if h:f=87/\∃b,K5 a b then some (.tuple ⟨[.bool h.2.choose, .int .i64 0]⟩,m)
 else if h:f=80/\∃N,∃b,iS a=some b/\SP a (m.get b) N then some (.tuple ⟨[.int .u64 h.2.choose, .int .i64 0]⟩,m)else none
theorem jS{a:List Value}{b:Bool}(h:K5 a b)(m:Mem):oG 87 a m=some (.tuple ⟨[.bool b, .int .i64 0]⟩,m):=by
 have hc:(87:FuncId)=87/\∃b,K5 a b:=⟨rfl,b,h⟩
 unfold oG
 rw[dif_pos hc,U1 hc.2.choose_spec h]
theorem pq{a:List Value}{N:Int}{b:Nat}{m:Mem}(hb:iS a=some b)(h:SP a (m.get b) N):oG 80 a m=some (.tuple ⟨[.int .u64 N, .int .i64 0]⟩,m):=by
 have hc:(80:FuncId)=80/\∃N,∃b,iS a=some b/\SP a (m.get b) N:=⟨rfl,N,b,hb,h⟩
 unfold oG
 rw[dif_neg (by rintro⟨h,_⟩;cases h),dif_pos hc]
 obtain⟨b',hb',h'⟩:=hc.2.choose_spec
 rw[hb]at hb'
 cases hb'
 rw[YJ h' h]
theorem pr{f:FuncId}(h1:f≠87)(h2:f≠80)(a:List Value)(m:Mem):oG f a m=none:=by
 unfold oG
 rw[dif_neg λh=>h1 h.1,dif_neg λh=>h2 h.1]
theorem cJ:(∀B0,CR Tryz.prog B0 1 oG)/\B5 oG:=UY λf a m v m' h=>by
 unfold oG at h
 split at h
 ·rename_i hc;simp only[Option.some.injEq,Prod.mk.injEq]at h;obtain⟨rfl,rfl⟩:=h;obtain⟨rfl,hb⟩:=hc;exact⟨DH Tryz.prog kp 1 20,λB0=>KC Bu hK Ed 20,λ_ _ _ _ _ h=>Fw 20 _ _ _ _ _ h,cH hb.choose_spec m⟩
 ·split at h<;>simp at h;rename_i hc;obtain⟨rfl,rfl⟩:=h;obtain⟨rfl,hb⟩:=hc;refine⟨CG Tryz.prog kp 1 oW 20,λB0=>Co Bu hK Ed (cF.1 B0) cF.2 20,CK cF.2 20,?_⟩;obtain⟨b,h1,h2⟩:=hb.choose_spec
  revert h2
  generalize hb.choose=N;intro h2;unfold SP at h2;split at h2
  ·rename_i b' sp n c off z _;have h1:some b'=some b:=h1;cases h1;obtain⟨pk,h3,rfl⟩:=h2;exact jR h3
  ·cases h2
def kd:RV->Int
 | .none=>0
 | .num _=>1
 | .ctx=>2
 | .pkt=>3
def nv:RV->Int
 | .num n=>n
 |_=>0
def AO(r:Int->RV):List Value:=AK (kd (r 0)) (nv (r 0)) (kd (r 1)) (nv (r 1)) (kd (r 2)) (nv (r 2)) (kd (r 3)) (nv (r 3)) (kd (r 4)) (nv (r 4)) (kd (r 5)) (nv (r 5)) (kd (r 6)) (nv (r 6)) (kd (r 7)) (nv (r 7)) (kd (r 8)) (nv (r 8)) (kd (r 9)) (nv (r 9))
def Ge(r:Int->RV):Prop:=∀i n,r i= .num n->u64 n
def Fa(pk:List Int)(sp:Option Nat):Value:= .slice (some ⟨3,0,sp⟩) pk.length pk.length
def Gg(l:List B9)(pk:List Int)(sp:Option Nat)(port:Int)(r:Int->RV)(at_ st:Nat):Mem:=mV (AE l) (AN pk) (AP l.length) (Fa pk sp) port (AO r) (at_:Int) (st:Int) false 0
def CD(l:List B9)(pk:List Int)(sp:Option Nat)(port:Int)(r:Int->RV)(at_ st:Nat)(over:Bool):Seen:=seenV (.bool true) (AE l) (AN pk) (AP l.length) (Fa pk sp) port (AO r) (at_:Int) (st:Int) over 0
def WL(l:List B9)(pk:List Int)(sp:Option Nat)(port:Int)(r:Int->RV)(at_ st:Nat)(r':Int->RV)(at' st':Nat)(over:Bool):Prop:=
 ∃v m,CG Tryz.prog kp 1 oG 20 28 [.pointer (some ⟨1,0,none⟩)] (Gg l pk sp port r at_ st)=some (v,m)/\SO v m=CD l pk sp port r' at' st' over
theorem ti{x:List Value}{imm2:Int}{b:Bool}{N:Int}(f:FuncId)(v:Value)(args:List Value)(m:Mem)(hc:(hV x imm2 b N).call f=some v)(hs:(hV x imm2 b N).spec f args (m.get (hV x imm2 b N).blk) v):oG f args m=some (v,m):=by
 rcases hs with⟨rfl,w,rfl,h⟩|⟨rfl,hb,w,rfl,h⟩
 ·exact jS h m
 ·exact pq hb h
theorem pt{x:List Value}{imm2:Int}{b:Bool}{N:Int}(f:FuncId)(hc:(hV x imm2 b N).call f=none)(a:List Value)(m:Mem):oG f a m=none:=
 pr (by rintro rfl;cases hc) (by rintro rfl;cases hc) a m
theorem BU{x:List Value}{imm2:Int}{b:Bool}{N:Int}{M:Mem}{s:Seen}{qs:List Prop}(h:DD (BC x imm2 b N M)=some (s,qs)/\BE (BC x imm2 b N M))(hq:∀p∈qs,p):
  ∃v m,CG Tryz.prog kp 1 oG 20 28 [.pointer (some ⟨1,0,none⟩)] M=some (v,m)/\SO v m=s:=
 H.callO_H (H:=hV x imm2 b N) (o:=oG) ti pt (g:=SO) h.1 h.2 hq
theorem Hc{n:Int}(h:EN n):Ez n=n:=by
 unfold Ez
 rw[wrap_i64 (by have:=h.1;have:=h.2;omega),wrap_u64 ⟨h.1,by have:=h.2;omega⟩]
theorem A7{n:Nat}(h:n<=1000000000):Cp (n:Int)=((n+1:Nat):Int):=wrap_i64 (by show _<=(n:Int)+1/\(n:Int)+1<=_;omega)
theorem GF(x:B9):(AU x).length=5:=rfl
theorem EK{l:List B9}{p:Nat}{x:B9}(hx:l[p]?=some x):GS (p:Int) l.length/\GY (AE l) (p:Int) (AU x):=by
 have hp:=(List.getElem?_eq_some_iff.1 hx).1
 refine⟨⟨by omega,by omega⟩,AU x,?_,rfl⟩
 have e:Nat.add 0 (Nat.mul ((p:Int)).toNat 5)=p*5:=by show 0+(p:Int).toNat*5=_;omega
 rw[e]
 show(if p*5+5<=(AE l).length then some (((AE l).drop (p*5)).take 5)else none)=_
 have hl:(AE l).length=l.length*5:=Dd GF l
 rw[if_pos (by rw[hl];omega)]
 obtain⟨r,hr⟩:=HW GF l p x hx
 unfold AE
 rw[hr]
 rfl
theorem Hb(pk:List Int):(AN pk).length=pk.length:=by simp[AN]
end
end Go.Proofs.YtgjflcgmieiafaaGreatDoor
namespace Go.Proofs.YtgjflcgmieiafaaGreatDoor
open Go Go.DI Go.DI.Kit Go.Proofs Go.Cmp
theorem Wl(s:Nat):(2:Int) ^ s=((2 ^ s:Nat):Int):=by
 rw[Int.natCast_pow];rfl
theorem Sp(n s:Nat)(hs:s<=64):L5 (n:Int) (s:Int)=((n >>> s:Nat):Int):=by
 show(n:Int).fdiv (2 ^ (min ((s:Int)).toNat 64))=_
 have e:min ((s:Int)).toNat 64=s:=by simp;omega
 rw[e,Nat.shiftRight_eq_div_pow,Wl,Int.fdiv_eq_ediv_of_nonneg _ (Int.natCast_nonneg _)]
 exact(Int.natCast_ediv n (2 ^ s)).symm
theorem dY(n s:Nat)(hs:s<=64):Ny (n:Int) (s:Int)=((n <<<s % 18446744073709551616:Nat):Int):=by
 show IntKind.wrap .u64 ((n:Int)*2 ^ (min ((s:Int)).toNat 64))=_
 have e:min ((s:Int)).toNat 64=s:=by simp;omega
 have hw:∀x:Int,IntKind.wrap .u64 x=x % 18446744073709551616:=λx=>by simp[IntKind.wrap,IntKind.bits,IntKind.signed]
 rw[e,Nat.shiftLeft_eq,Wl,hw,←Int.natCast_mul]
 exact(Int.natCast_emod _ _).symm
theorem Wm(a b:BitVec 64):MF (a.toNat:Int) (b.toNat:Int)=((a &&& b).toNat:Int):=by
 have ha:=a.isLt
 have hb:=b.isLt
 have h64:(2:Nat) ^ 64=18446744073709551616:=by decide
 rw[h64]at ha hb
 have:=PZ (a:=(a.toNat:Int)) (b:=(b.toNat:Int)) ⟨by omega,by omega⟩ ⟨by omega,by omega⟩
 unfold MF
 rw[show IntKind.bits .u64=64 from rfl]
 refine this.trans ?_
 unfold DZ
 rw[Int.toNat_natCast,Int.toNat_natCast,BitVec.toNat_and]
theorem dZ(a b:BitVec 64):iu (a.toNat:Int) (b.toNat:Int)=((a|||b).toNat:Int):=by
 have ha:=a.isLt
 have hb:=b.isLt
 have h64:(2:Nat) ^ 64=18446744073709551616:=by decide
 rw[h64]at ha hb
 rw[U0 ha hb,BitVec.toNat_or]
theorem Wn(a:BitVec 64)(s:Nat)(hs:s<=64):L5 (a.toNat:Int) (s:Int)=((a >>> s).toNat:Int):=by
 rw[Sp _ _ hs,BitVec.toNat_ushiftRight]
theorem Wo(a:BitVec 64)(s:Nat)(hs:s<=64):Ny (a.toNat:Int) (s:Int)=((a <<<s).toNat:Int):=by
 rw[dY _ _ hs,BitVec.toNat_shiftLeft]
theorem Wp(a m:BitVec 64)(s:Nat)(hs:s<=64):Y3 (a.toNat:Int) (m.toNat:Int) (s:Int)=((((a >>> s) &&& m)|||((a &&& m)<<<s)).toNat:Int):=by
 unfold Y3
 rw[Wn a s hs,Wm,Wm,Wo _ s hs,dZ]
theorem kc(a:BitVec 64):O1 (a.toNat:Int)=((Ks a).toNat:Int):=by
 have h1:=Wp a 0x00ff00ff00ff00ff#64 8 (by decide)
 obtain⟨b,hb⟩:∃b:BitVec 64,(a >>> 8 &&& 0x00ff00ff00ff00ff#64)|||((a &&& 0x00ff00ff00ff00ff#64)<<<8)=b:=⟨_,rfl⟩
 rw[hb]at h1
 have h2:=Wp b 0x0000ffff0000ffff#64 16 (by decide)
 obtain⟨c,hc⟩:∃c:BitVec 64,(b >>> 16 &&& 0x0000ffff0000ffff#64)|||((b &&& 0x0000ffff0000ffff#64)<<<16)=c:=⟨_,rfl⟩
 rw[hc]at h2
 have e:Ks a=c >>> 32|||c <<<32:=by rw[←hc,←hb];rfl
 have m1:(71777214294589695:Int)=((0x00ff00ff00ff00ff#64).toNat:Int):=by decide
 have m2:(281470681808895:Int)=((0x0000ffff0000ffff#64).toNat:Int):=by decide
 unfold O1
 rw[m1,m2]
 rw[show Y3 (a.toNat:Int) ((0x00ff00ff00ff00ff#64).toNat:Int) 8=(b.toNat:Int)from h1]
 rw[show Y3 (b.toNat:Int) ((0x0000ffff0000ffff#64).toNat:Int) 16=(c.toNat:Int)from h2]
 show iu (L5 (c.toNat:Int) ((32:Nat):Int)) (Ny (c.toNat:Int) ((32:Nat):Int))=_
 rw[Wn c 32 (by decide),Wo c 32 (by decide),dZ,e]
theorem swap_lt{z:Int}{n:Nat}(hz:z=2\/z=4\/z=8)(h:(n:Int)<256 ^ z.toNat):n<18446744073709551616:=by
 rcases hz with rfl|rfl|rfl
 ·have:(n:Int)<65536:=h;omega
 ·have:(n:Int)<4294967296:=h;omega
 ·have:(n:Int)<18446744073709551616:=h;omega
theorem swap_eq{z a:Int}(hz:z=2\/z=4\/z=8)(h0:0<=a)(hl:a<256 ^ z.toNat):L5 (O1 a) (64 - 8*z)=Fi z a:=by
 obtain⟨n,rfl⟩:=Int.eq_ofNat_of_zero_le h0
 have hn:=swap_lt hz hl
 have e:(n:Int)=((BitVec.ofNat 64 n).toNat:Int):=by
  rw[BitVec.toNat_ofNat,Nat.mod_eq_of_lt (by simpa using hn)]
 have hr:O1 (n:Int)=((Ks (BitVec.ofNat 64 n)).toNat:Int):=by
  conv=>lhs;rw[e]
  exact kc _
 rw[RC hz hl,hr]
 have key:∀s:Nat,s<=64->(64 - 8*z)=(s:Int)->64 - 8*z.toNat=s->L5 (((Ks (BitVec.ofNat 64 n)).toNat:Nat):Int) (64 - 8*z)=(((Ks (BitVec.ofNat 64 n)).toNat / 2 ^ (64 - 8*z.toNat):Nat):Int):=λs h1 h2 h3=>by
  rw[h2,h3,Sp _ _ h1,Nat.shiftRight_eq_div_pow]
 rcases hz with rfl|rfl|rfl
 ·exact key 48 (by decide) (by decide) (by decide)
 ·exact key 32 (by decide) (by decide) (by decide)
 ·exact key 0 (by decide) (by decide) (by decide)
theorem Y2{z a:Int}(hz:z=2\/z=4\/z=8)(h0:0<=a)(hl:a<256 ^ z.toNat):u64 (Fi z a):=by
 obtain⟨n,rfl⟩:=Int.eq_ofNat_of_zero_le h0
 rw[RC hz hl]
 have h1:=(Ks (BitVec.ofNat 64 n)).isLt
 have h64:(2:Nat) ^ 64=18446744073709551616:=by decide
 rw[h64]at h1
 have h2:=Nat.div_le_self (Ks (BitVec.ofNat 64 n)).toNat (2 ^ (64 - 8*z.toNat))
 exact⟨Int.natCast_nonneg _,by omega⟩
end Go.Proofs.YtgjflcgmieiafaaGreatDoor
namespace Go.Proofs.YtgjflcgmieiafaaGreatDoor
open Go Go.DI Go.DI.Kit Go.Proofs Go.Cmp
noncomputable section
theorem Ge.set{r:Int->RV}(h:Ge r){d n:Int}(hn:u64 n):Ge (CU r d (.num n)):=λi k hk=>by
 unfold CU at hk
 split at hk
 ·cases hk;exact hn
 ·exact h i k hk
theorem Ge.setP{r:Int->RV}(h:Ge r){d:Int}:Ge (CU r d .pkt):=λi k hk=>by
 unfold CU at hk
 split at hk
 ·cases hk
 ·exact h i k hk
theorem Ge.copy{r:Int->RV}(h:Ge r)(d s:Int):Ge (CU r d (r s)):=λi k hk=>by
 unfold CU at hk
 split at hk
 ·exact h s k hk
 ·exact h i k hk
theorem JA{n:Int}(h:EN n):u64 n:=⟨h.1,by have:=h.2;omega⟩
theorem PX{a b:Int}(ha:u64 a)(hb:u64 b):u64 (DZ a b):=by
 unfold DZ
 have:=Nat.and_le_left (n:=a.toNat) (m:=b.toNat)
 have:=ha.1;have:=ha.2
 exact⟨by omega,by omega⟩
theorem Qi{a b:Int}(ha:u64 a)(hb:u64 b):MF a b=DZ a b:=PZ ha hb
theorem Sm{a:Int}(ha:u64 a):MF a 4294967295=a % 4294967296:=by
 rw[Qi ha ⟨by decide,by decide⟩]
 unfold DZ
 obtain⟨n,rfl⟩:=Int.eq_ofNat_of_zero_le ha.1
 have e:n &&& 4294967295=n % 2 ^ 32:=Nat.and_two_pow_sub_one_eq_mod n 32
 show((n &&& 4294967295:Nat):Int)=_
 rw[e];omega
theorem wU(n:Int):IntKind.wrap .u64 n=n % 18446744073709551616:=by simp[IntKind.wrap,IntKind.bits,IntKind.signed]
theorem Sn(n:Int):Ez n=n % 18446744073709551616:=by
 unfold Ez
 rw[wU,IntKind.wrap_i64]
 omega
theorem qb{n:Int}:MF (MF (Ez n) 4294967295) 4294967295=n % 4294967296:=by
 have h1:u64 (Ez n):=by rw[Sn];exact⟨by omega,by omega⟩
 have h2:u64 (Ez n % 4294967296):=⟨by omega,by omega⟩
 rw[Sm h1,Sm h2,Sn]
 omega
theorem dW{l h:Int}:iu (IntKind.wrap .u64 (IntKind.wrap .u32 l)) (Ny (IntKind.wrap .u64 (IntKind.wrap .u32 h)) 32)=l % 4294967296+4294967296*(h % 4294967296):=by
 have e1:IntKind.wrap .u64 (IntKind.wrap .u32 l)=l % 4294967296:=by rw[wU,IntKind.wrap_u32];omega
 have e2:IntKind.wrap .u64 (IntKind.wrap .u32 h)=h % 4294967296:=by rw[wU,IntKind.wrap_u32];omega
 rw[e1,e2]
 have e3:Ny (h % 4294967296) 32=h % 4294967296*4294967296:=by
  show IntKind.wrap .u64 (h % 4294967296*2 ^ (min (32:Int).toNat 64))=_;rw[show(2:Int) ^ (min (32:Int).toNat 64)=4294967296 by decide];exact wrap_u64 ⟨by omega,by omega⟩
 rw[e3]
 obtain⟨a,ha⟩:=Int.eq_ofNat_of_zero_le (show 0<=l % 4294967296 by omega)
 obtain⟨b,hb⟩:=Int.eq_ofNat_of_zero_le (show 0<=h % 4294967296 by omega)
 rw[ha,hb,show(b:Int)*4294967296=((b*4294967296:Nat):Int)by omega,U0 (by omega) (by omega)]
 have h32:(2:Nat) ^ 32=4294967296:=by decide
 have:=Nat.shiftLeft_add_eq_or_of_lt (a:=b) (b:=a) (i:=32) (by rw[h32];omega)
 rw[Nat.shiftLeft_eq,h32]at this
 rw[Nat.or_comm,←this]
 omega
theorem ka{n:Nat}(h:n<=1000000000):IntKind.wrap .i64 (Int.add (n:Int) 2)=((n+2:Nat):Int):=wrap_i64 (by show _<=(n:Int)+2/\(n:Int)+2<=_;omega)
theorem qc{pk:List Int}(h:pk.length<=1000000):IntKind.wrap .u64 (Int.ofNat pk.length)=(pk.length:Int):=wrap_u64 ⟨by show 0<=(pk.length:Int);omega,by show(pk.length:Int)<_;omega⟩
theorem So{p:Int}(h:0<=p/\p<4294967296):u64 p:=⟨h.1,by omega⟩
theorem qd{o:Nat}(h:o<=1000):Sh (o:Int)=(o:Int):=by
 have e:Gy (o:Int)=(o:Int):=by
  unfold Gy;simp[IntKind.wrap,IntKind.bits,IntKind.signed];omega
 unfold Sh
 rw[e,wrap_i64 (x:=(o:Int)) (by omega)]
 rw[wrap_i64 (x:=Int.add 0 (o:Int)) (by show _<=0+(o:Int)/\0+(o:Int)<=_;omega)]
 show 0+(o:Int)=_
 omega
theorem MX{p q:Nat}{o:Int}(hp:p<=1000000000)(hq:q<=1000000)(h:(q:Int)=(p:Int)+1+o):IntKind.wrap .i64 (Int.add (Cp (p:Int)) (IntKind.wrap .i64 o))=(q:Int):=by
 rw[A7 hp,wrap_i64 (x:=o) (by omega)]
 rw[wrap_i64 (by show _<=((p+1:Nat):Int)+o/\((p+1:Nat):Int)+o<=_;omega)]
 show((p+1:Nat):Int)+o=_
 omega
theorem qe{l:List B9}{p:Nat}{h:Int}(hx:l[p+1]?=some ⟨0,0,0,0,h⟩)(hp:p<=1000000000):GS (Cp (p:Int)) l.length/\H.ldOk (.cells true (AE l)) (Nat.add (Nat.add 0 (Nat.mul (Cp (p:Int)).toNat 5)) 4) false 1 (.int .i32 h):=by
 have hp1:=(List.getElem?_eq_some_iff.1 hx).1
 rw[A7 hp]
 refine⟨⟨by omega,by omega⟩,?_⟩
 have e:Nat.add (Nat.add 0 (Nat.mul (((p+1:Nat):Int)).toNat 5)) 4=(p+1)*5+4:=by show 0+(((p+1:Nat):Int)).toNat*5+4=_;omega
 rw[e]
 show(AE l)[(p+1)*5+4]?=_
 obtain⟨r,hr⟩:=HW GF l (p+1) _ hx
 have h2:((AE l).drop ((p+1)*5))[4]?=some (.int .i32 h):=by
  unfold AE;rw[hr];rfl
 rw[List.getElem?_drop]at h2
 exact h2
set_option maxHeartbeats 4000000
theorem UL{l:List B9}{pk:List Int}{sp:Option Nat}{port:Int}{p p' st:Nat}{r r':Int->RV}(hR:Ge r)(hb:∀b∈pk,0<=b/\b<256)(hpk:pk.length<=1000000)(hport:0<=port/\port<4294967296)(hp:p<=1000000000)(hst:st<=1000000000)(hp2:p'<=1000000)
  (h:E6 l pk port p r p' r'):WL l pk sp port r p st r' p' (st+1) false/\Ge r':=by
 cases h with
 |movI hc hd hn=>
  rename_i d n;obtain⟨q1,q2⟩:=EK hc;rcases hd.1 with rfl|rfl
  ·refine⟨?_,hR.set (JA hn)⟩;have hr:AO r=AK (kd (r 0)) (nv (r 0)) (kd (r 1)) (nv (r 1)) (kd (r 2)) (nv (r 2)) (kd (r 3)) (nv (r 3)) (kd (r 4)) (nv (r 4)) (kd (r 5)) (nv (r 5)) (kd (r 6)) (nv (r 6)) (kd (r 7)) (nv (r 7)) (kd (r 8)) (nv (r 8)) (kd (r 9)) (nv (r 9)):=by unfold AO;rfl
   obtain⟨v,m,h1,h2⟩:=BU (kS (AE l) (AN pk) (Fa pk sp) l.length port (kd (r 0)) (nv (r 0)) (kd (r 1)) (nv (r 1)) (kd (r 2)) (nv (r 2)) (kd (r 3)) (nv (r 3)) (kd (r 4)) (nv (r 4)) (kd (r 5)) (nv (r 5)) (kd (r 6)) (nv (r 6)) (kd (r 7)) (nv (r 7)) (kd (r 8)) (nv (r 8)) (kd (r 9)) (nv (r 9)) (p:Int) (st:Int) n) (by
      intro q hq;rcases List.mem_cons.1 hq with rfl|hq
      ·exact q1
      ·obtain rfl:=List.mem_singleton.1 hq;exact q2)
   refine⟨v,m,?_,?_⟩
   ·unfold Gg;rw[hr];exact h1
   ·rw[h2];unfold CD;rw[Hc hn,A7 hp,A7 hst];rfl
  ·refine⟨?_,hR.set (JA hn)⟩;have hr:AO r=AK (kd (r 0)) (nv (r 0)) (kd (r 1)) (nv (r 1)) (kd (r 2)) (nv (r 2)) (kd (r 3)) (nv (r 3)) (kd (r 4)) (nv (r 4)) (kd (r 5)) (nv (r 5)) (kd (r 6)) (nv (r 6)) (kd (r 7)) (nv (r 7)) (kd (r 8)) (nv (r 8)) (kd (r 9)) (nv (r 9)):=by unfold AO;rfl
   obtain⟨v,m,h1,h2⟩:=BU (kU (AE l) (AN pk) (Fa pk sp) l.length port (kd (r 0)) (nv (r 0)) (kd (r 1)) (nv (r 1)) (kd (r 2)) (nv (r 2)) (kd (r 3)) (nv (r 3)) (kd (r 4)) (nv (r 4)) (kd (r 5)) (nv (r 5)) (kd (r 6)) (nv (r 6)) (kd (r 7)) (nv (r 7)) (kd (r 8)) (nv (r 8)) (kd (r 9)) (nv (r 9)) (p:Int) (st:Int) n) (by
      intro q hq;rcases List.mem_cons.1 hq with rfl|hq
      ·exact q1
      ·obtain rfl:=List.mem_singleton.1 hq;exact q2)
   refine⟨v,m,?_,?_⟩
   ·unfold Gg;rw[hr];exact h1
   ·rw[h2];unfold CD;rw[Hc hn,A7 hp,A7 hst];rfl
 |andI hc hd hn h2=>
  rename_i d n a;obtain⟨q1,q2⟩:=EK hc;obtain rfl:=hd.1;have ha:=hR _ _ h2;refine⟨?_,hR.set (PX ha (JA hn))⟩;have hr:AO r=AK (kd (r 0)) (nv (r 0)) (kd (r 1)) (nv (r 1)) 1 a (kd (r 3)) (nv (r 3)) (kd (r 4)) (nv (r 4)) (kd (r 5)) (nv (r 5)) (kd (r 6)) (nv (r 6)) (kd (r 7)) (nv (r 7)) (kd (r 8)) (nv (r 8)) (kd (r 9)) (nv (r 9)):=by unfold AO;rw[h2];rfl
  obtain⟨v,m,h1,h2⟩:=BU (q9 (AE l) (AN pk) (Fa pk sp) l.length port (kd (r 0)) (nv (r 0)) (kd (r 1)) (nv (r 1)) (kd (r 3)) (nv (r 3)) (kd (r 4)) (nv (r 4)) (kd (r 5)) (nv (r 5)) (kd (r 6)) (nv (r 6)) (kd (r 7)) (nv (r 7)) (kd (r 8)) (nv (r 8)) (kd (r 9)) (nv (r 9)) (p:Int) (st:Int) a n) (by
     intro q hq;rcases List.mem_cons.1 hq with rfl|hq
     ·exact q1
     ·obtain rfl:=List.mem_singleton.1 hq;exact q2)
  refine⟨v,m,?_,?_⟩
  ·unfold Gg;rw[hr];exact h1
  ·rw[h2];unfold CD;rw[Hc hn,Qi ha (JA hn),A7 hp,A7 hst];rfl
 |movR hc hd hm hne=>
  rename_i d s;obtain⟨q1,q2⟩:=EK hc;rcases hm.1 with⟨rfl,rfl⟩|⟨rfl,rfl⟩
  ·refine⟨?_,hR.copy _ _⟩;cases he:r 1 with
   |none=>exact absurd he hne
   |num n=>
    have hr:AO r=AK (kd (r 0)) (nv (r 0)) 1 n (kd (r 2)) (nv (r 2)) (kd (r 3)) (nv (r 3)) (kd (r 4)) (nv (r 4)) (kd (r 5)) (nv (r 5)) (kd (r 6)) (nv (r 6)) (kd (r 7)) (nv (r 7)) (kd (r 8)) (nv (r 8)) (kd (r 9)) (nv (r 9)):=by unfold AO;rw[he];rfl
    obtain⟨v,m,h1,h2⟩:=BU (YU (AE l) (AN pk) (Fa pk sp) l.length port (kd (r 0)) (nv (r 0)) n (kd (r 2)) (nv (r 2)) (kd (r 3)) (nv (r 3)) (kd (r 4)) (nv (r 4)) (kd (r 5)) (nv (r 5)) (kd (r 6)) (nv (r 6)) (kd (r 7)) (nv (r 7)) (kd (r 8)) (nv (r 8)) (kd (r 9)) (nv (r 9)) (p:Int) (st:Int)) (by
       intro q hq;rcases List.mem_cons.1 hq with rfl|hq
       ·exact q1
       ·obtain rfl:=List.mem_singleton.1 hq;exact q2)
    refine⟨v,m,?_,?_⟩
    ·unfold Gg;rw[hr];exact h1
    ·rw[h2];unfold CD;rw[A7 hp,A7 hst,show AO (CU r 6 (.num n))=AK (kd (r 0)) (nv (r 0)) (kd (r 1)) (nv (r 1)) (kd (r 2)) (nv (r 2)) (kd (r 3)) (nv (r 3)) (kd (r 4)) (nv (r 4)) (kd (r 5)) (nv (r 5)) 1 n (kd (r 7)) (nv (r 7)) (kd (r 8)) (nv (r 8)) (kd (r 9)) (nv (r 9))from rfl,he];rfl
   |ctx=>
    have hr:AO r=AK (kd (r 0)) (nv (r 0)) 2 0 (kd (r 2)) (nv (r 2)) (kd (r 3)) (nv (r 3)) (kd (r 4)) (nv (r 4)) (kd (r 5)) (nv (r 5)) (kd (r 6)) (nv (r 6)) (kd (r 7)) (nv (r 7)) (kd (r 8)) (nv (r 8)) (kd (r 9)) (nv (r 9)):=by unfold AO;rw[he];rfl
    obtain⟨v,m,h1,h2⟩:=BU (Y0 (AE l) (AN pk) (Fa pk sp) l.length port (kd (r 0)) (nv (r 0)) 0 (kd (r 2)) (nv (r 2)) (kd (r 3)) (nv (r 3)) (kd (r 4)) (nv (r 4)) (kd (r 5)) (nv (r 5)) (kd (r 6)) (nv (r 6)) (kd (r 7)) (nv (r 7)) (kd (r 8)) (nv (r 8)) (kd (r 9)) (nv (r 9)) (p:Int) (st:Int)) (by
       intro q hq;rcases List.mem_cons.1 hq with rfl|hq
       ·exact q1
       ·obtain rfl:=List.mem_singleton.1 hq;exact q2)
    refine⟨v,m,?_,?_⟩
    ·unfold Gg;rw[hr];exact h1
    ·rw[h2];unfold CD;rw[A7 hp,A7 hst,show AO (CU r 6 .ctx)=AK (kd (r 0)) (nv (r 0)) (kd (r 1)) (nv (r 1)) (kd (r 2)) (nv (r 2)) (kd (r 3)) (nv (r 3)) (kd (r 4)) (nv (r 4)) (kd (r 5)) (nv (r 5)) 2 0 (kd (r 7)) (nv (r 7)) (kd (r 8)) (nv (r 8)) (kd (r 9)) (nv (r 9))from rfl,he];rfl
   |pkt=>
    have hr:AO r=AK (kd (r 0)) (nv (r 0)) 3 0 (kd (r 2)) (nv (r 2)) (kd (r 3)) (nv (r 3)) (kd (r 4)) (nv (r 4)) (kd (r 5)) (nv (r 5)) (kd (r 6)) (nv (r 6)) (kd (r 7)) (nv (r 7)) (kd (r 8)) (nv (r 8)) (kd (r 9)) (nv (r 9)):=by unfold AO;rw[he];rfl
    obtain⟨v,m,h1,h2⟩:=BU (YY (AE l) (AN pk) (Fa pk sp) l.length port (kd (r 0)) (nv (r 0)) 0 (kd (r 2)) (nv (r 2)) (kd (r 3)) (nv (r 3)) (kd (r 4)) (nv (r 4)) (kd (r 5)) (nv (r 5)) (kd (r 6)) (nv (r 6)) (kd (r 7)) (nv (r 7)) (kd (r 8)) (nv (r 8)) (kd (r 9)) (nv (r 9)) (p:Int) (st:Int)) (by
       intro q hq;rcases List.mem_cons.1 hq with rfl|hq
       ·exact q1
       ·obtain rfl:=List.mem_singleton.1 hq;exact q2)
    refine⟨v,m,?_,?_⟩
    ·unfold Gg;rw[hr];exact h1
    ·rw[h2];unfold CD;rw[A7 hp,A7 hst,show AO (CU r 6 .pkt)=AK (kd (r 0)) (nv (r 0)) (kd (r 1)) (nv (r 1)) (kd (r 2)) (nv (r 2)) (kd (r 3)) (nv (r 3)) (kd (r 4)) (nv (r 4)) (kd (r 5)) (nv (r 5)) 3 0 (kd (r 7)) (nv (r 7)) (kd (r 8)) (nv (r 8)) (kd (r 9)) (nv (r 9))from rfl,he];rfl
  ·refine⟨?_,hR.copy _ _⟩;cases he:r 8 with
   |none=>exact absurd he hne
   |num n=>
    have hr:AO r=AK (kd (r 0)) (nv (r 0)) (kd (r 1)) (nv (r 1)) (kd (r 2)) (nv (r 2)) (kd (r 3)) (nv (r 3)) (kd (r 4)) (nv (r 4)) (kd (r 5)) (nv (r 5)) (kd (r 6)) (nv (r 6)) (kd (r 7)) (nv (r 7)) 1 n (kd (r 9)) (nv (r 9)):=by unfold AO;rw[he];rfl
    obtain⟨v,m,h1,h2⟩:=BU (YX (AE l) (AN pk) (Fa pk sp) l.length port (kd (r 0)) (nv (r 0)) (kd (r 1)) (nv (r 1)) (kd (r 2)) (nv (r 2)) (kd (r 3)) (nv (r 3)) (kd (r 4)) (nv (r 4)) (kd (r 5)) (nv (r 5)) (kd (r 6)) (nv (r 6)) (kd (r 7)) (nv (r 7)) n (kd (r 9)) (nv (r 9)) (p:Int) (st:Int)) (by
       intro q hq;rcases List.mem_cons.1 hq with rfl|hq
       ·exact q1
       ·obtain rfl:=List.mem_singleton.1 hq;exact q2)
    refine⟨v,m,?_,?_⟩
    ·unfold Gg;rw[hr];exact h1
    ·rw[h2];unfold CD;rw[A7 hp,A7 hst,show AO (CU r 2 (.num n))=AK (kd (r 0)) (nv (r 0)) (kd (r 1)) (nv (r 1)) 1 n (kd (r 3)) (nv (r 3)) (kd (r 4)) (nv (r 4)) (kd (r 5)) (nv (r 5)) (kd (r 6)) (nv (r 6)) (kd (r 7)) (nv (r 7)) (kd (r 8)) (nv (r 8)) (kd (r 9)) (nv (r 9))from rfl,he];rfl
   |ctx=>
    have hr:AO r=AK (kd (r 0)) (nv (r 0)) (kd (r 1)) (nv (r 1)) (kd (r 2)) (nv (r 2)) (kd (r 3)) (nv (r 3)) (kd (r 4)) (nv (r 4)) (kd (r 5)) (nv (r 5)) (kd (r 6)) (nv (r 6)) (kd (r 7)) (nv (r 7)) 2 0 (kd (r 9)) (nv (r 9)):=by unfold AO;rw[he];rfl
    obtain⟨v,m,h1,h2⟩:=BU (YV (AE l) (AN pk) (Fa pk sp) l.length port (kd (r 0)) (nv (r 0)) (kd (r 1)) (nv (r 1)) (kd (r 2)) (nv (r 2)) (kd (r 3)) (nv (r 3)) (kd (r 4)) (nv (r 4)) (kd (r 5)) (nv (r 5)) (kd (r 6)) (nv (r 6)) (kd (r 7)) (nv (r 7)) 0 (kd (r 9)) (nv (r 9)) (p:Int) (st:Int)) (by
       intro q hq;rcases List.mem_cons.1 hq with rfl|hq
       ·exact q1
       ·obtain rfl:=List.mem_singleton.1 hq;exact q2)
    refine⟨v,m,?_,?_⟩
    ·unfold Gg;rw[hr];exact h1
    ·rw[h2];unfold CD;rw[A7 hp,A7 hst,show AO (CU r 2 .ctx)=AK (kd (r 0)) (nv (r 0)) (kd (r 1)) (nv (r 1)) 2 0 (kd (r 3)) (nv (r 3)) (kd (r 4)) (nv (r 4)) (kd (r 5)) (nv (r 5)) (kd (r 6)) (nv (r 6)) (kd (r 7)) (nv (r 7)) (kd (r 8)) (nv (r 8)) (kd (r 9)) (nv (r 9))from rfl,he];rfl
   |pkt=>
    have hr:AO r=AK (kd (r 0)) (nv (r 0)) (kd (r 1)) (nv (r 1)) (kd (r 2)) (nv (r 2)) (kd (r 3)) (nv (r 3)) (kd (r 4)) (nv (r 4)) (kd (r 5)) (nv (r 5)) (kd (r 6)) (nv (r 6)) (kd (r 7)) (nv (r 7)) 3 0 (kd (r 9)) (nv (r 9)):=by unfold AO;rw[he];rfl
    obtain⟨v,m,h1,h2⟩:=BU (Y1 (AE l) (AN pk) (Fa pk sp) l.length port (kd (r 0)) (nv (r 0)) (kd (r 1)) (nv (r 1)) (kd (r 2)) (nv (r 2)) (kd (r 3)) (nv (r 3)) (kd (r 4)) (nv (r 4)) (kd (r 5)) (nv (r 5)) (kd (r 6)) (nv (r 6)) (kd (r 7)) (nv (r 7)) 0 (kd (r 9)) (nv (r 9)) (p:Int) (st:Int)) (by
       intro q hq;rcases List.mem_cons.1 hq with rfl|hq
       ·exact q1
       ·obtain rfl:=List.mem_singleton.1 hq;exact q2)
    refine⟨v,m,?_,?_⟩
    ·unfold Gg;rw[hr];exact h1
    ·rw[h2];unfold CD;rw[A7 hp,A7 hst,show AO (CU r 2 .pkt)=AK (kd (r 0)) (nv (r 0)) (kd (r 1)) (nv (r 1)) 3 0 (kd (r 3)) (nv (r 3)) (kd (r 4)) (nv (r 4)) (kd (r 5)) (nv (r 5)) (kd (r 6)) (nv (r 6)) (kd (r 7)) (nv (r 7)) (kd (r 8)) (nv (r 8)) (kd (r 9)) (nv (r 9))from rfl,he];rfl
 |andR hc hd hm h2 h3=>
  rename_i d s a c;obtain⟨q1,q2⟩:=EK hc;obtain⟨⟨rfl,rfl⟩,_⟩:=hm;have ha:=hR _ _ h2;have hb:=hR _ _ h3;refine⟨?_,hR.set (PX ha hb)⟩;have hr:AO r=AK (kd (r 0)) (nv (r 0)) (kd (r 1)) (nv (r 1)) 1 a 1 c (kd (r 4)) (nv (r 4)) (kd (r 5)) (nv (r 5)) (kd (r 6)) (nv (r 6)) (kd (r 7)) (nv (r 7)) (kd (r 8)) (nv (r 8)) (kd (r 9)) (nv (r 9)):=by unfold AO;rw[h2,h3];rfl
  obtain⟨v,m,h1,h2⟩:=BU (qY (AE l) (AN pk) (Fa pk sp) l.length port (kd (r 0)) (nv (r 0)) (kd (r 1)) (nv (r 1)) (kd (r 4)) (nv (r 4)) (kd (r 5)) (nv (r 5)) (kd (r 6)) (nv (r 6)) (kd (r 7)) (nv (r 7)) (kd (r 8)) (nv (r 8)) (kd (r 9)) (nv (r 9)) (p:Int) (st:Int) a c) (by
     intro q hq;rcases List.mem_cons.1 hq with rfl|hq
     ·exact q1
     ·obtain rfl:=List.mem_singleton.1 hq;exact q2)
  refine⟨v,m,?_,?_⟩
  ·unfold Gg;rw[hr];exact h1
  ·rw[h2];unfold CD;rw[Qi ha hb,A7 hp,A7 hst];rw[show AO (CU r 2 (.num (DZ a c)))=AK (kd (r 0)) (nv (r 0)) (kd (r 1)) (nv (r 1)) 1 (DZ a c) (kd (r 3)) (nv (r 3)) (kd (r 4)) (nv (r 4)) (kd (r 5)) (nv (r 5)) (kd (r 6)) (nv (r 6)) (kd (r 7)) (nv (r 7)) (kd (r 8)) (nv (r 8)) (kd (r 9)) (nv (r 9))from rfl,h3];rfl
 |low hc=>
  rename_i n;obtain⟨q1,q2⟩:=EK hc;refine⟨?_,hR.set (by unfold u64;omega)⟩;have hr:AO r=AK (kd (r 0)) (nv (r 0)) (kd (r 1)) (nv (r 1)) (kd (r 2)) (nv (r 2)) (kd (r 3)) (nv (r 3)) (kd (r 4)) (nv (r 4)) (kd (r 5)) (nv (r 5)) (kd (r 6)) (nv (r 6)) (kd (r 7)) (nv (r 7)) (kd (r 8)) (nv (r 8)) (kd (r 9)) (nv (r 9)):=by unfold AO;rfl
  obtain⟨v,m,h1,h2⟩:=BU (uQ (AE l) (AN pk) (Fa pk sp) l.length port (kd (r 0)) (nv (r 0)) (kd (r 1)) (nv (r 1)) (kd (r 2)) (nv (r 2)) (kd (r 3)) (nv (r 3)) (kd (r 4)) (nv (r 4)) (kd (r 5)) (nv (r 5)) (kd (r 6)) (nv (r 6)) (kd (r 7)) (nv (r 7)) (kd (r 8)) (nv (r 8)) (kd (r 9)) (nv (r 9)) (p:Int) (st:Int) n) (by
     intro q hq;rcases List.mem_cons.1 hq with rfl|hq
     ·exact q1
     ·obtain rfl:=List.mem_singleton.1 hq;exact q2)
  refine⟨v,m,?_,?_⟩
  ·unfold Gg;rw[hr];exact h1
  ·rw[h2];unfold CD;rw[qb,A7 hp,A7 hst];rfl
 |const hc hc2=>
  rename_i lo hi;obtain⟨q1,q2⟩:=EK hc;obtain⟨q3,q4⟩:=qe hc2 (by omega);refine⟨?_,hR.set (by unfold u64;omega)⟩;have hr:AO r=AK (kd (r 0)) (nv (r 0)) (kd (r 1)) (nv (r 1)) (kd (r 2)) (nv (r 2)) (kd (r 3)) (nv (r 3)) (kd (r 4)) (nv (r 4)) (kd (r 5)) (nv (r 5)) (kd (r 6)) (nv (r 6)) (kd (r 7)) (nv (r 7)) (kd (r 8)) (nv (r 8)) (kd (r 9)) (nv (r 9)):=by unfold AO;rfl
  obtain⟨v,m,h1,h2⟩:=BU (kX (AE l) (AN pk) (Fa pk sp) l.length port (kd (r 0)) (nv (r 0)) (kd (r 1)) (nv (r 1)) (kd (r 2)) (nv (r 2)) (kd (r 3)) (nv (r 3)) (kd (r 4)) (nv (r 4)) (kd (r 5)) (nv (r 5)) (kd (r 6)) (nv (r 6)) (kd (r 7)) (nv (r 7)) (kd (r 8)) (nv (r 8)) (kd (r 9)) (nv (r 9)) (p:Int) (st:Int) lo hi) (by
     intro q hq;rcases List.mem_cons.1 hq with rfl|hq
     ·exact q1
     ·rcases List.mem_cons.1 hq with rfl|hq
      ·exact q2
      ·rcases List.mem_cons.1 hq with rfl|hq
       ·exact q3
       ·obtain rfl:=List.mem_singleton.1 hq;exact q4)
  refine⟨v,m,?_,?_⟩
  ·unfold Gg;rw[hr];exact h1
  ·rw[h2];unfold CD;rw[dW,ka hp,A7 hst];rfl
 |ldLen hc hd hm he=>
  rename_i d s;obtain⟨q1,q2⟩:=EK hc;obtain⟨⟨rfl,rfl⟩,_⟩:=hm;refine⟨?_,hR.set (by unfold u64;omega)⟩;have hr:AO r=AK (kd (r 0)) (nv (r 0)) (kd (r 1)) (nv (r 1)) (kd (r 2)) (nv (r 2)) (kd (r 3)) (nv (r 3)) (kd (r 4)) (nv (r 4)) (kd (r 5)) (nv (r 5)) 2 0 (kd (r 7)) (nv (r 7)) (kd (r 8)) (nv (r 8)) (kd (r 9)) (nv (r 9)):=by unfold AO;rw[he];rfl
  obtain⟨v,m,h1,h2⟩:=BU (kY (AE l) (AN pk) (some ⟨3,0,sp⟩) pk.length pk.length l.length port (kd (r 0)) (nv (r 0)) (kd (r 1)) (nv (r 1)) (kd (r 2)) (nv (r 2)) (kd (r 3)) (nv (r 3)) (kd (r 4)) (nv (r 4)) (kd (r 5)) (nv (r 5)) 0 (kd (r 7)) (nv (r 7)) (kd (r 8)) (nv (r 8)) (kd (r 9)) (nv (r 9)) (p:Int) (st:Int)) (by
     intro q hq;rcases List.mem_cons.1 hq with rfl|hq
     ·exact q1
     ·obtain rfl:=List.mem_singleton.1 hq;exact q2)
  refine⟨v,m,?_,?_⟩
  ·unfold Gg;rw[hr];exact h1
  ·rw[h2];unfold CD;rw[qc hpk,A7 hp,A7 hst,show AO (CU r 8 (.num pk.length))=AK (kd (r 0)) (nv (r 0)) (kd (r 1)) (nv (r 1)) (kd (r 2)) (nv (r 2)) (kd (r 3)) (nv (r 3)) (kd (r 4)) (nv (r 4)) (kd (r 5)) (nv (r 5)) (kd (r 6)) (nv (r 6)) (kd (r 7)) (nv (r 7)) 1 (pk.length:Int) (kd (r 9)) (nv (r 9))from rfl,he];rfl
 |ldPort hc hd hm he=>
  rename_i d s;obtain⟨q1,q2⟩:=EK hc;obtain⟨⟨rfl,rfl⟩,_⟩:=hm;refine⟨?_,hR.set (So hport)⟩;have hr:AO r=AK (kd (r 0)) (nv (r 0)) (kd (r 1)) (nv (r 1)) (kd (r 2)) (nv (r 2)) (kd (r 3)) (nv (r 3)) (kd (r 4)) (nv (r 4)) (kd (r 5)) (nv (r 5)) 2 0 (kd (r 7)) (nv (r 7)) (kd (r 8)) (nv (r 8)) (kd (r 9)) (nv (r 9)):=by unfold AO;rw[he];rfl
  obtain⟨v,m,h1,h2⟩:=BU (dV (AE l) (AN pk) (Fa pk sp) l.length port (kd (r 0)) (nv (r 0)) (kd (r 1)) (nv (r 1)) (kd (r 2)) (nv (r 2)) (kd (r 3)) (nv (r 3)) (kd (r 4)) (nv (r 4)) (kd (r 5)) (nv (r 5)) 0 (kd (r 7)) (nv (r 7)) (kd (r 8)) (nv (r 8)) (kd (r 9)) (nv (r 9)) (p:Int) (st:Int)) (by
     intro q hq;rcases List.mem_cons.1 hq with rfl|hq
     ·exact q1
     ·obtain rfl:=List.mem_singleton.1 hq;exact q2)
  refine⟨v,m,?_,?_⟩
  ·unfold Gg;rw[hr];exact h1
  ·rw[h2];unfold CD;rw[wrap_u64 (So hport),A7 hp,A7 hst,show AO (CU r 2 (.num port))=AK (kd (r 0)) (nv (r 0)) (kd (r 1)) (nv (r 1)) 1 port (kd (r 3)) (nv (r 3)) (kd (r 4)) (nv (r 4)) (kd (r 5)) (nv (r 5)) (kd (r 6)) (nv (r 6)) (kd (r 7)) (nv (r 7)) (kd (r 8)) (nv (r 8)) (kd (r 9)) (nv (r 9))from rfl,he];rfl
 |ldPkt hc hd hm he=>
  rename_i d s;obtain⟨q1,q2⟩:=EK hc;obtain⟨⟨rfl,rfl⟩,_⟩:=hm;refine⟨?_,hR.setP⟩;have hr:AO r=AK (kd (r 0)) (nv (r 0)) 2 0 (kd (r 2)) (nv (r 2)) (kd (r 3)) (nv (r 3)) (kd (r 4)) (nv (r 4)) (kd (r 5)) (nv (r 5)) (kd (r 6)) (nv (r 6)) (kd (r 7)) (nv (r 7)) (kd (r 8)) (nv (r 8)) (kd (r 9)) (nv (r 9)):=by unfold AO;rw[he];rfl
  obtain⟨v,m,h1,h2⟩:=BU (kV (AE l) (AN pk) (Fa pk sp) l.length port (kd (r 0)) (nv (r 0)) 0 (kd (r 2)) (nv (r 2)) (kd (r 3)) (nv (r 3)) (kd (r 4)) (nv (r 4)) (kd (r 5)) (nv (r 5)) (kd (r 6)) (nv (r 6)) (kd (r 7)) (nv (r 7)) (kd (r 8)) (nv (r 8)) (kd (r 9)) (nv (r 9)) (p:Int) (st:Int)) (by
     intro q hq;rcases List.mem_cons.1 hq with rfl|hq
     ·exact q1
     ·obtain rfl:=List.mem_singleton.1 hq;exact q2)
  refine⟨v,m,?_,?_⟩
  ·unfold Gg;rw[hr];exact h1
  ·rw[h2];unfold CD;rw[A7 hp,A7 hst,show AO (CU r 7 (.pkt))=AK (kd (r 0)) (nv (r 0)) (kd (r 1)) (nv (r 1)) (kd (r 2)) (nv (r 2)) (kd (r 3)) (nv (r 3)) (kd (r 4)) (nv (r 4)) (kd (r 5)) (nv (r 5)) (kd (r 6)) (nv (r 6)) 3 0 (kd (r 8)) (nv (r 8)) (kd (r 9)) (nv (r 9))from rfl,he];rfl
 |ld hc hz hd hm he ho hl=>
  rename_i z d s o;obtain⟨q1,q2⟩:=EK hc;obtain⟨⟨rfl,rfl⟩,_⟩:=hm;have hzb:1<=z/\z<=8:=by rcases hz with h|h|h|h<;>omega
  have hN:=We (pk:=pk) (a:=o) (z:=z.toNat) hb hl
  have hN8:Eh (cut pk o z.toNat)<18446744073709551616:=by
   rcases hz with rfl|rfl|rfl|rfl<;>exact Int.lt_of_lt_of_le hN.2 (by decide)
  refine⟨?_,hR.set ⟨hN.1,hN8⟩⟩;have hoff:Sh (o:Int)=(o:Int):=qd ho
  have q3:DT 80 [Fa pk sp, .int .i64 (Sh o), .int .i64 z] (.cells true (AN pk)) (.tuple ⟨[.int .u64 (Eh (cut pk o z.toNat)), .int .i64 0]⟩):=by
   rw[hoff];exact .inr ⟨rfl,rfl,_,rfl,pk,⟨⟨true,rfl⟩,hb,rfl,hz,by omega,by omega,by omega⟩,rfl⟩
  have hr:AO r=AK (kd (r 0)) (nv (r 0)) (kd (r 1)) (nv (r 1)) (kd (r 2)) (nv (r 2)) (kd (r 3)) (nv (r 3)) (kd (r 4)) (nv (r 4)) (kd (r 5)) (nv (r 5)) (kd (r 6)) (nv (r 6)) 3 0 (kd (r 8)) (nv (r 8)) (kd (r 9)) (nv (r 9)):=by unfold AO;rw[he];rfl
  rcases hz with rfl|rfl|rfl|rfl
  ·obtain⟨v,m,h1,h2⟩:=BU (uS (AE l) (AN pk) (some ⟨3,0,sp⟩) pk.length pk.length l.length port (kd (r 0)) (nv (r 0)) (kd (r 1)) (nv (r 1)) (kd (r 2)) (nv (r 2)) (kd (r 3)) (nv (r 3)) (kd (r 4)) (nv (r 4)) (kd (r 5)) (nv (r 5)) (kd (r 6)) (nv (r 6)) 0 (kd (r 8)) (nv (r 8)) (kd (r 9)) (nv (r 9)) (p:Int) (st:Int) (o:Int) _) (by
      intro q hq;rcases List.mem_cons.1 hq with rfl|hq
      ·exact q1
      ·rcases List.mem_cons.1 hq with rfl|hq
       ·exact q2
       ·obtain rfl:=List.mem_singleton.1 hq;exact q3)
   refine⟨v,m,?_,?_⟩
   ·unfold Gg;rw[hr];exact h1
   ·rw[h2];unfold CD;rw[A7 hp,A7 hst,show AO (CU r 2 (.num (Eh (cut pk o (1:Int).toNat))))=AK (kd (r 0)) (nv (r 0)) (kd (r 1)) (nv (r 1)) 1 (Eh (cut pk o (1:Int).toNat)) (kd (r 3)) (nv (r 3)) (kd (r 4)) (nv (r 4)) (kd (r 5)) (nv (r 5)) (kd (r 6)) (nv (r 6)) (kd (r 7)) (nv (r 7)) (kd (r 8)) (nv (r 8)) (kd (r 9)) (nv (r 9))from rfl,he];rfl
  ·obtain⟨v,m,h1,h2⟩:=BU (uP (AE l) (AN pk) (some ⟨3,0,sp⟩) pk.length pk.length l.length port (kd (r 0)) (nv (r 0)) (kd (r 1)) (nv (r 1)) (kd (r 2)) (nv (r 2)) (kd (r 3)) (nv (r 3)) (kd (r 4)) (nv (r 4)) (kd (r 5)) (nv (r 5)) (kd (r 6)) (nv (r 6)) 0 (kd (r 8)) (nv (r 8)) (kd (r 9)) (nv (r 9)) (p:Int) (st:Int) (o:Int) _) (by
      intro q hq;rcases List.mem_cons.1 hq with rfl|hq
      ·exact q1
      ·rcases List.mem_cons.1 hq with rfl|hq
       ·exact q2
       ·obtain rfl:=List.mem_singleton.1 hq;exact q3)
   refine⟨v,m,?_,?_⟩
   ·unfold Gg;rw[hr];exact h1
   ·rw[h2];unfold CD;rw[A7 hp,A7 hst,show AO (CU r 2 (.num (Eh (cut pk o (2:Int).toNat))))=AK (kd (r 0)) (nv (r 0)) (kd (r 1)) (nv (r 1)) 1 (Eh (cut pk o (2:Int).toNat)) (kd (r 3)) (nv (r 3)) (kd (r 4)) (nv (r 4)) (kd (r 5)) (nv (r 5)) (kd (r 6)) (nv (r 6)) (kd (r 7)) (nv (r 7)) (kd (r 8)) (nv (r 8)) (kd (r 9)) (nv (r 9))from rfl,he];rfl
  ·obtain⟨v,m,h1,h2⟩:=BU (uR (AE l) (AN pk) (some ⟨3,0,sp⟩) pk.length pk.length l.length port (kd (r 0)) (nv (r 0)) (kd (r 1)) (nv (r 1)) (kd (r 2)) (nv (r 2)) (kd (r 3)) (nv (r 3)) (kd (r 4)) (nv (r 4)) (kd (r 5)) (nv (r 5)) (kd (r 6)) (nv (r 6)) 0 (kd (r 8)) (nv (r 8)) (kd (r 9)) (nv (r 9)) (p:Int) (st:Int) (o:Int) _) (by
      intro q hq;rcases List.mem_cons.1 hq with rfl|hq
      ·exact q1
      ·rcases List.mem_cons.1 hq with rfl|hq
       ·exact q2
       ·obtain rfl:=List.mem_singleton.1 hq;exact q3)
   refine⟨v,m,?_,?_⟩
   ·unfold Gg;rw[hr];exact h1
   ·rw[h2];unfold CD;rw[A7 hp,A7 hst,show AO (CU r 2 (.num (Eh (cut pk o (4:Int).toNat))))=AK (kd (r 0)) (nv (r 0)) (kd (r 1)) (nv (r 1)) 1 (Eh (cut pk o (4:Int).toNat)) (kd (r 3)) (nv (r 3)) (kd (r 4)) (nv (r 4)) (kd (r 5)) (nv (r 5)) (kd (r 6)) (nv (r 6)) (kd (r 7)) (nv (r 7)) (kd (r 8)) (nv (r 8)) (kd (r 9)) (nv (r 9))from rfl,he];rfl
  ·obtain⟨v,m,h1,h2⟩:=BU (uT (AE l) (AN pk) (some ⟨3,0,sp⟩) pk.length pk.length l.length port (kd (r 0)) (nv (r 0)) (kd (r 1)) (nv (r 1)) (kd (r 2)) (nv (r 2)) (kd (r 3)) (nv (r 3)) (kd (r 4)) (nv (r 4)) (kd (r 5)) (nv (r 5)) (kd (r 6)) (nv (r 6)) 0 (kd (r 8)) (nv (r 8)) (kd (r 9)) (nv (r 9)) (p:Int) (st:Int) (o:Int) _) (by
      intro q hq;rcases List.mem_cons.1 hq with rfl|hq
      ·exact q1
      ·rcases List.mem_cons.1 hq with rfl|hq
       ·exact q2
       ·obtain rfl:=List.mem_singleton.1 hq;exact q3)
   refine⟨v,m,?_,?_⟩
   ·unfold Gg;rw[hr];exact h1
   ·rw[h2];unfold CD;rw[A7 hp,A7 hst,show AO (CU r 2 (.num (Eh (cut pk o (8:Int).toNat))))=AK (kd (r 0)) (nv (r 0)) (kd (r 1)) (nv (r 1)) 1 (Eh (cut pk o (8:Int).toNat)) (kd (r 3)) (nv (r 3)) (kd (r 4)) (nv (r 4)) (kd (r 5)) (nv (r 5)) (kd (r 6)) (nv (r 6)) (kd (r 7)) (nv (r 7)) (kd (r 8)) (nv (r 8)) (kd (r 9)) (nv (r 9))from rfl,he];rfl
 |swap hc hz hz1 he h0 hl=>
  rename_i z a;obtain⟨q1,q2⟩:=EK hc;have hz3:z=2\/z=4\/z=8:=by rcases hz with h|h|h|h<;>omega
  have hs:=swap_eq hz3 h0 hl;have hsw:=Y2 hz3 h0 hl;refine⟨?_,hR.set hsw⟩;have hr:AO r=AK (kd (r 0)) (nv (r 0)) (kd (r 1)) (nv (r 1)) 1 a (kd (r 3)) (nv (r 3)) (kd (r 4)) (nv (r 4)) (kd (r 5)) (nv (r 5)) (kd (r 6)) (nv (r 6)) (kd (r 7)) (nv (r 7)) (kd (r 8)) (nv (r 8)) (kd (r 9)) (nv (r 9)):=by unfold AO;rw[he];rfl
  rcases hz3 with rfl|rfl|rfl
  ·obtain⟨v,m,h1,h2⟩:=BU (kT (AE l) (AN pk) (Fa pk sp) l.length port (kd (r 0)) (nv (r 0)) (kd (r 1)) (nv (r 1)) (kd (r 3)) (nv (r 3)) (kd (r 4)) (nv (r 4)) (kd (r 5)) (nv (r 5)) (kd (r 6)) (nv (r 6)) (kd (r 7)) (nv (r 7)) (kd (r 8)) (nv (r 8)) (kd (r 9)) (nv (r 9)) (p:Int) (st:Int) a) (by
      intro q hq;rcases List.mem_cons.1 hq with rfl|hq
      ·exact q1
      ·obtain rfl:=List.mem_singleton.1 hq;exact q2)
   refine⟨v,m,?_,?_⟩
   ·unfold Gg;rw[hr];exact h1
   ·rw[h2];unfold CD;rw[show L5 (O1 a) 48=Fi 2 a from hs,A7 hp,A7 hst];rfl
  ·obtain⟨v,m,h1,h2⟩:=BU (kW (AE l) (AN pk) (Fa pk sp) l.length port (kd (r 0)) (nv (r 0)) (kd (r 1)) (nv (r 1)) (kd (r 3)) (nv (r 3)) (kd (r 4)) (nv (r 4)) (kd (r 5)) (nv (r 5)) (kd (r 6)) (nv (r 6)) (kd (r 7)) (nv (r 7)) (kd (r 8)) (nv (r 8)) (kd (r 9)) (nv (r 9)) (p:Int) (st:Int) a) (by
      intro q hq;rcases List.mem_cons.1 hq with rfl|hq
      ·exact q1
      ·obtain rfl:=List.mem_singleton.1 hq;exact q2)
   refine⟨v,m,?_,?_⟩
   ·unfold Gg;rw[hr];exact h1
   ·rw[h2];unfold CD;rw[show L5 (O1 a) 32=Fi 4 a from hs,A7 hp,A7 hst];rfl
  ·obtain⟨v,m,h1,h2⟩:=BU (kZ (AE l) (AN pk) (Fa pk sp) l.length port (kd (r 0)) (nv (r 0)) (kd (r 1)) (nv (r 1)) (kd (r 3)) (nv (r 3)) (kd (r 4)) (nv (r 4)) (kd (r 5)) (nv (r 5)) (kd (r 6)) (nv (r 6)) (kd (r 7)) (nv (r 7)) (kd (r 8)) (nv (r 8)) (kd (r 9)) (nv (r 9)) (p:Int) (st:Int) a) (by
      intro q hq;rcases List.mem_cons.1 hq with rfl|hq
      ·exact q1
      ·obtain rfl:=List.mem_singleton.1 hq;exact q2)
   refine⟨v,m,?_,?_⟩
   ·unfold Gg;rw[hr];exact h1
   ·rw[h2];unfold CD;rw[show L5 (O1 a) 0=Fi 8 a from hs,A7 hp,A7 hst];rfl
 |jif hc hop hd hn he hq hlt=>
  rename_i op d n a o;obtain⟨q1,q2⟩:=EK hc;refine⟨?_,hR⟩
  have q3:∀w:Bool,DA op a n=w->DT 87 [.int .i64 op, .bool true, .int .u64 a, .int .u64 (Ez n)] (.cells true (AN pk)) (.tuple ⟨[.bool w, .int .i64 0]⟩):=λw hw=>by
   rw[Hc hn];exact .inl ⟨rfl,w,rfl,hop,hw.symm⟩
  rcases hd.1 with rfl|rfl
  ·have hr:AO r=AK (kd (r 0)) (nv (r 0)) (kd (r 1)) (nv (r 1)) 1 a (kd (r 3)) (nv (r 3)) (kd (r 4)) (nv (r 4)) (kd (r 5)) (nv (r 5)) (kd (r 6)) (nv (r 6)) (kd (r 7)) (nv (r 7)) (kd (r 8)) (nv (r 8)) (kd (r 9)) (nv (r 9)):=by unfold AO;rw[he];rfl
   cases hw:DA op a n with
   |true=>
    have q3:=q3 true hw;rw[hw]at hq;have hat:IntKind.wrap .i64 (Int.add (Cp (p:Int)) (IntKind.wrap .i64 o))=(p':Int):=MX hp hp2 (by simpa using hq);rcases hop with rfl|rfl|rfl|rfl
    ·obtain⟨v,m,h1,h2⟩:=BU (U8 (AE l) (AN pk) (Fa pk sp) l.length port (kd (r 0)) (nv (r 0)) (kd (r 1)) (nv (r 1)) (kd (r 3)) (nv (r 3)) (kd (r 4)) (nv (r 4)) (kd (r 5)) (nv (r 5)) (kd (r 6)) (nv (r 6)) (kd (r 7)) (nv (r 7)) (kd (r 8)) (nv (r 8)) (kd (r 9)) (nv (r 9)) (p:Int) (st:Int) a n o) (by
        intro q hq;rcases List.mem_cons.1 hq with rfl|hq
        ·exact q1
        ·rcases List.mem_cons.1 hq with rfl|hq
         ·exact q2
         ·obtain rfl:=List.mem_singleton.1 hq;exact q3)
     refine⟨v,m,?_,?_⟩
     ·unfold Gg;rw[hr];exact h1
     ·rw[h2];unfold CD;rw[hat,A7 hst,hr]
    ·obtain⟨v,m,h1,h2⟩:=BU (Ue (AE l) (AN pk) (Fa pk sp) l.length port (kd (r 0)) (nv (r 0)) (kd (r 1)) (nv (r 1)) (kd (r 3)) (nv (r 3)) (kd (r 4)) (nv (r 4)) (kd (r 5)) (nv (r 5)) (kd (r 6)) (nv (r 6)) (kd (r 7)) (nv (r 7)) (kd (r 8)) (nv (r 8)) (kd (r 9)) (nv (r 9)) (p:Int) (st:Int) a n o) (by
        intro q hq;rcases List.mem_cons.1 hq with rfl|hq
        ·exact q1
        ·rcases List.mem_cons.1 hq with rfl|hq
         ·exact q2
         ·obtain rfl:=List.mem_singleton.1 hq;exact q3)
     refine⟨v,m,?_,?_⟩
     ·unfold Gg;rw[hr];exact h1
     ·rw[h2];unfold CD;rw[hat,A7 hst,hr]
    ·obtain⟨v,m,h1,h2⟩:=BU (Sk (AE l) (AN pk) (Fa pk sp) l.length port (kd (r 0)) (nv (r 0)) (kd (r 1)) (nv (r 1)) (kd (r 3)) (nv (r 3)) (kd (r 4)) (nv (r 4)) (kd (r 5)) (nv (r 5)) (kd (r 6)) (nv (r 6)) (kd (r 7)) (nv (r 7)) (kd (r 8)) (nv (r 8)) (kd (r 9)) (nv (r 9)) (p:Int) (st:Int) a n o) (by
        intro q hq;rcases List.mem_cons.1 hq with rfl|hq
        ·exact q1
        ·rcases List.mem_cons.1 hq with rfl|hq
         ·exact q2
         ·obtain rfl:=List.mem_singleton.1 hq;exact q3)
     refine⟨v,m,?_,?_⟩
     ·unfold Gg;rw[hr];exact h1
     ·rw[h2];unfold CD;rw[hat,A7 hst,hr]
    ·obtain⟨v,m,h1,h2⟩:=BU (Ub (AE l) (AN pk) (Fa pk sp) l.length port (kd (r 0)) (nv (r 0)) (kd (r 1)) (nv (r 1)) (kd (r 3)) (nv (r 3)) (kd (r 4)) (nv (r 4)) (kd (r 5)) (nv (r 5)) (kd (r 6)) (nv (r 6)) (kd (r 7)) (nv (r 7)) (kd (r 8)) (nv (r 8)) (kd (r 9)) (nv (r 9)) (p:Int) (st:Int) a n o) (by
        intro q hq;rcases List.mem_cons.1 hq with rfl|hq
        ·exact q1
        ·rcases List.mem_cons.1 hq with rfl|hq
         ·exact q2
         ·obtain rfl:=List.mem_singleton.1 hq;exact q3)
     refine⟨v,m,?_,?_⟩
     ·unfold Gg;rw[hr];exact h1
     ·rw[h2];unfold CD;rw[hat,A7 hst,hr]
   |false=>
    have q3:=q3 false hw;rw[hw]at hq;have hat:Cp (p:Int)=(p':Int):=by rw[A7 hp];simp at hq;omega
    rcases hop with rfl|rfl|rfl|rfl
    ·obtain⟨v,m,h1,h2⟩:=BU (Ud (AE l) (AN pk) (Fa pk sp) l.length port (kd (r 0)) (nv (r 0)) (kd (r 1)) (nv (r 1)) (kd (r 3)) (nv (r 3)) (kd (r 4)) (nv (r 4)) (kd (r 5)) (nv (r 5)) (kd (r 6)) (nv (r 6)) (kd (r 7)) (nv (r 7)) (kd (r 8)) (nv (r 8)) (kd (r 9)) (nv (r 9)) (p:Int) (st:Int) a n o) (by
        intro q hq;rcases List.mem_cons.1 hq with rfl|hq
        ·exact q1
        ·rcases List.mem_cons.1 hq with rfl|hq
         ·exact q2
         ·obtain rfl:=List.mem_singleton.1 hq;exact q3)
     refine⟨v,m,?_,?_⟩
     ·unfold Gg;rw[hr];exact h1
     ·rw[h2];unfold CD;rw[hat,A7 hst,hr]
    ·obtain⟨v,m,h1,h2⟩:=BU (Uj (AE l) (AN pk) (Fa pk sp) l.length port (kd (r 0)) (nv (r 0)) (kd (r 1)) (nv (r 1)) (kd (r 3)) (nv (r 3)) (kd (r 4)) (nv (r 4)) (kd (r 5)) (nv (r 5)) (kd (r 6)) (nv (r 6)) (kd (r 7)) (nv (r 7)) (kd (r 8)) (nv (r 8)) (kd (r 9)) (nv (r 9)) (p:Int) (st:Int) a n o) (by
        intro q hq;rcases List.mem_cons.1 hq with rfl|hq
        ·exact q1
        ·rcases List.mem_cons.1 hq with rfl|hq
         ·exact q2
         ·obtain rfl:=List.mem_singleton.1 hq;exact q3)
     refine⟨v,m,?_,?_⟩
     ·unfold Gg;rw[hr];exact h1
     ·rw[h2];unfold CD;rw[hat,A7 hst,hr]
    ·obtain⟨v,m,h1,h2⟩:=BU (Si (AE l) (AN pk) (Fa pk sp) l.length port (kd (r 0)) (nv (r 0)) (kd (r 1)) (nv (r 1)) (kd (r 3)) (nv (r 3)) (kd (r 4)) (nv (r 4)) (kd (r 5)) (nv (r 5)) (kd (r 6)) (nv (r 6)) (kd (r 7)) (nv (r 7)) (kd (r 8)) (nv (r 8)) (kd (r 9)) (nv (r 9)) (p:Int) (st:Int) a n o) (by
        intro q hq;rcases List.mem_cons.1 hq with rfl|hq
        ·exact q1
        ·rcases List.mem_cons.1 hq with rfl|hq
         ·exact q2
         ·obtain rfl:=List.mem_singleton.1 hq;exact q3)
     refine⟨v,m,?_,?_⟩
     ·unfold Gg;rw[hr];exact h1
     ·rw[h2];unfold CD;rw[hat,A7 hst,hr]
    ·obtain⟨v,m,h1,h2⟩:=BU (Ug (AE l) (AN pk) (Fa pk sp) l.length port (kd (r 0)) (nv (r 0)) (kd (r 1)) (nv (r 1)) (kd (r 3)) (nv (r 3)) (kd (r 4)) (nv (r 4)) (kd (r 5)) (nv (r 5)) (kd (r 6)) (nv (r 6)) (kd (r 7)) (nv (r 7)) (kd (r 8)) (nv (r 8)) (kd (r 9)) (nv (r 9)) (p:Int) (st:Int) a n o) (by
        intro q hq;rcases List.mem_cons.1 hq with rfl|hq
        ·exact q1
        ·rcases List.mem_cons.1 hq with rfl|hq
         ·exact q2
         ·obtain rfl:=List.mem_singleton.1 hq;exact q3)
     refine⟨v,m,?_,?_⟩
     ·unfold Gg;rw[hr];exact h1
     ·rw[h2];unfold CD;rw[hat,A7 hst,hr]
  ·have hr:AO r=AK (kd (r 0)) (nv (r 0)) (kd (r 1)) (nv (r 1)) (kd (r 2)) (nv (r 2)) (kd (r 3)) (nv (r 3)) (kd (r 4)) (nv (r 4)) (kd (r 5)) (nv (r 5)) (kd (r 6)) (nv (r 6)) (kd (r 7)) (nv (r 7)) 1 a (kd (r 9)) (nv (r 9)):=by unfold AO;rw[he];rfl
   cases hw:DA op a n with
   |true=>
    have q3:=q3 true hw;rw[hw]at hq;have hat:IntKind.wrap .i64 (Int.add (Cp (p:Int)) (IntKind.wrap .i64 o))=(p':Int):=MX hp hp2 (by simpa using hq);rcases hop with rfl|rfl|rfl|rfl
    ·obtain⟨v,m,h1,h2⟩:=BU (Ui (AE l) (AN pk) (Fa pk sp) l.length port (kd (r 0)) (nv (r 0)) (kd (r 1)) (nv (r 1)) (kd (r 2)) (nv (r 2)) (kd (r 3)) (nv (r 3)) (kd (r 4)) (nv (r 4)) (kd (r 5)) (nv (r 5)) (kd (r 6)) (nv (r 6)) (kd (r 7)) (nv (r 7)) (kd (r 9)) (nv (r 9)) (p:Int) (st:Int) a n o) (by
        intro q hq;rcases List.mem_cons.1 hq with rfl|hq
        ·exact q1
        ·rcases List.mem_cons.1 hq with rfl|hq
         ·exact q2
         ·obtain rfl:=List.mem_singleton.1 hq;exact q3)
     refine⟨v,m,?_,?_⟩
     ·unfold Gg;rw[hr];exact h1
     ·rw[h2];unfold CD;rw[hat,A7 hst,hr]
    ·obtain⟨v,m,h1,h2⟩:=BU (Ua (AE l) (AN pk) (Fa pk sp) l.length port (kd (r 0)) (nv (r 0)) (kd (r 1)) (nv (r 1)) (kd (r 2)) (nv (r 2)) (kd (r 3)) (nv (r 3)) (kd (r 4)) (nv (r 4)) (kd (r 5)) (nv (r 5)) (kd (r 6)) (nv (r 6)) (kd (r 7)) (nv (r 7)) (kd (r 9)) (nv (r 9)) (p:Int) (st:Int) a n o) (by
        intro q hq;rcases List.mem_cons.1 hq with rfl|hq
        ·exact q1
        ·rcases List.mem_cons.1 hq with rfl|hq
         ·exact q2
         ·obtain rfl:=List.mem_singleton.1 hq;exact q3)
     refine⟨v,m,?_,?_⟩
     ·unfold Gg;rw[hr];exact h1
     ·rw[h2];unfold CD;rw[hat,A7 hst,hr]
    ·obtain⟨v,m,h1,h2⟩:=BU (Sj (AE l) (AN pk) (Fa pk sp) l.length port (kd (r 0)) (nv (r 0)) (kd (r 1)) (nv (r 1)) (kd (r 2)) (nv (r 2)) (kd (r 3)) (nv (r 3)) (kd (r 4)) (nv (r 4)) (kd (r 5)) (nv (r 5)) (kd (r 6)) (nv (r 6)) (kd (r 7)) (nv (r 7)) (kd (r 9)) (nv (r 9)) (p:Int) (st:Int) a n o) (by
        intro q hq;rcases List.mem_cons.1 hq with rfl|hq
        ·exact q1
        ·rcases List.mem_cons.1 hq with rfl|hq
         ·exact q2
         ·obtain rfl:=List.mem_singleton.1 hq;exact q3)
     refine⟨v,m,?_,?_⟩
     ·unfold Gg;rw[hr];exact h1
     ·rw[h2];unfold CD;rw[hat,A7 hst,hr]
    ·obtain⟨v,m,h1,h2⟩:=BU (Uk (AE l) (AN pk) (Fa pk sp) l.length port (kd (r 0)) (nv (r 0)) (kd (r 1)) (nv (r 1)) (kd (r 2)) (nv (r 2)) (kd (r 3)) (nv (r 3)) (kd (r 4)) (nv (r 4)) (kd (r 5)) (nv (r 5)) (kd (r 6)) (nv (r 6)) (kd (r 7)) (nv (r 7)) (kd (r 9)) (nv (r 9)) (p:Int) (st:Int) a n o) (by
        intro q hq;rcases List.mem_cons.1 hq with rfl|hq
        ·exact q1
        ·rcases List.mem_cons.1 hq with rfl|hq
         ·exact q2
         ·obtain rfl:=List.mem_singleton.1 hq;exact q3)
     refine⟨v,m,?_,?_⟩
     ·unfold Gg;rw[hr];exact h1
     ·rw[h2];unfold CD;rw[hat,A7 hst,hr]
   |false=>
    have q3:=q3 false hw;rw[hw]at hq;have hat:Cp (p:Int)=(p':Int):=by rw[A7 hp];simp at hq;omega
    rcases hop with rfl|rfl|rfl|rfl
    ·obtain⟨v,m,h1,h2⟩:=BU (U9 (AE l) (AN pk) (Fa pk sp) l.length port (kd (r 0)) (nv (r 0)) (kd (r 1)) (nv (r 1)) (kd (r 2)) (nv (r 2)) (kd (r 3)) (nv (r 3)) (kd (r 4)) (nv (r 4)) (kd (r 5)) (nv (r 5)) (kd (r 6)) (nv (r 6)) (kd (r 7)) (nv (r 7)) (kd (r 9)) (nv (r 9)) (p:Int) (st:Int) a n o) (by
        intro q hq;rcases List.mem_cons.1 hq with rfl|hq
        ·exact q1
        ·rcases List.mem_cons.1 hq with rfl|hq
         ·exact q2
         ·obtain rfl:=List.mem_singleton.1 hq;exact q3)
     refine⟨v,m,?_,?_⟩
     ·unfold Gg;rw[hr];exact h1
     ·rw[h2];unfold CD;rw[hat,A7 hst,hr]
    ·obtain⟨v,m,h1,h2⟩:=BU (Uf (AE l) (AN pk) (Fa pk sp) l.length port (kd (r 0)) (nv (r 0)) (kd (r 1)) (nv (r 1)) (kd (r 2)) (nv (r 2)) (kd (r 3)) (nv (r 3)) (kd (r 4)) (nv (r 4)) (kd (r 5)) (nv (r 5)) (kd (r 6)) (nv (r 6)) (kd (r 7)) (nv (r 7)) (kd (r 9)) (nv (r 9)) (p:Int) (st:Int) a n o) (by
        intro q hq;rcases List.mem_cons.1 hq with rfl|hq
        ·exact q1
        ·rcases List.mem_cons.1 hq with rfl|hq
         ·exact q2
         ·obtain rfl:=List.mem_singleton.1 hq;exact q3)
     refine⟨v,m,?_,?_⟩
     ·unfold Gg;rw[hr];exact h1
     ·rw[h2];unfold CD;rw[hat,A7 hst,hr]
    ·obtain⟨v,m,h1,h2⟩:=BU (Sl (AE l) (AN pk) (Fa pk sp) l.length port (kd (r 0)) (nv (r 0)) (kd (r 1)) (nv (r 1)) (kd (r 2)) (nv (r 2)) (kd (r 3)) (nv (r 3)) (kd (r 4)) (nv (r 4)) (kd (r 5)) (nv (r 5)) (kd (r 6)) (nv (r 6)) (kd (r 7)) (nv (r 7)) (kd (r 9)) (nv (r 9)) (p:Int) (st:Int) a n o) (by
        intro q hq;rcases List.mem_cons.1 hq with rfl|hq
        ·exact q1
        ·rcases List.mem_cons.1 hq with rfl|hq
         ·exact q2
         ·obtain rfl:=List.mem_singleton.1 hq;exact q3)
     refine⟨v,m,?_,?_⟩
     ·unfold Gg;rw[hr];exact h1
     ·rw[h2];unfold CD;rw[hat,A7 hst,hr]
    ·obtain⟨v,m,h1,h2⟩:=BU (Uc (AE l) (AN pk) (Fa pk sp) l.length port (kd (r 0)) (nv (r 0)) (kd (r 1)) (nv (r 1)) (kd (r 2)) (nv (r 2)) (kd (r 3)) (nv (r 3)) (kd (r 4)) (nv (r 4)) (kd (r 5)) (nv (r 5)) (kd (r 6)) (nv (r 6)) (kd (r 7)) (nv (r 7)) (kd (r 9)) (nv (r 9)) (p:Int) (st:Int) a n o) (by
        intro q hq;rcases List.mem_cons.1 hq with rfl|hq
        ·exact q1
        ·rcases List.mem_cons.1 hq with rfl|hq
         ·exact q2
         ·obtain rfl:=List.mem_singleton.1 hq;exact q3)
     refine⟨v,m,?_,?_⟩
     ·unfold Gg;rw[hr];exact h1
     ·rw[h2];unfold CD;rw[hat,A7 hst,hr]
 |jifR hc hop he he3 hq hlt=>
  rename_i op a c o;obtain⟨q1,q2⟩:=EK hc;refine⟨?_,hR⟩;have hr:AO r=AK (kd (r 0)) (nv (r 0)) (kd (r 1)) (nv (r 1)) 1 a 1 c (kd (r 4)) (nv (r 4)) (kd (r 5)) (nv (r 5)) (kd (r 6)) (nv (r 6)) (kd (r 7)) (nv (r 7)) (kd (r 8)) (nv (r 8)) (kd (r 9)) (nv (r 9)):=by unfold AO;rw[he,he3];rfl
  have q3:∀w:Bool,DA op a c=w->DT 87 [.int .i64 op, .bool true, .int .u64 a, .int .u64 c] (.cells true (AN pk)) (.tuple ⟨[.bool w, .int .i64 0]⟩):=λw hw=> .inl ⟨rfl,w,rfl,by rcases hop with rfl|rfl<;>simp,hw.symm⟩;cases hw:DA op a c with
  |true=>
   have q3:=q3 true hw;rw[hw]at hq;have hat:IntKind.wrap .i64 (Int.add (Cp (p:Int)) (IntKind.wrap .i64 o))=(p':Int):=MX hp hp2 (by simpa using hq);rcases hop with rfl|rfl
   ·obtain⟨v,m,h1,h2⟩:=BU (Uh (AE l) (AN pk) (Fa pk sp) l.length port (kd (r 0)) (nv (r 0)) (kd (r 1)) (nv (r 1)) (kd (r 4)) (nv (r 4)) (kd (r 5)) (nv (r 5)) (kd (r 6)) (nv (r 6)) (kd (r 7)) (nv (r 7)) (kd (r 8)) (nv (r 8)) (kd (r 9)) (nv (r 9)) (p:Int) (st:Int) a c o) (by
       intro q hq;rcases List.mem_cons.1 hq with rfl|hq
       ·exact q1
       ·rcases List.mem_cons.1 hq with rfl|hq
        ·exact q2
        ·obtain rfl:=List.mem_singleton.1 hq;exact q3)
    refine⟨v,m,?_,?_⟩
    ·unfold Gg;rw[hr];exact h1
    ·rw[h2];unfold CD;rw[hat,A7 hst,hr]
   ·obtain⟨v,m,h1,h2⟩:=BU (YW (AE l) (AN pk) (Fa pk sp) l.length port (kd (r 0)) (nv (r 0)) (kd (r 1)) (nv (r 1)) (kd (r 4)) (nv (r 4)) (kd (r 5)) (nv (r 5)) (kd (r 6)) (nv (r 6)) (kd (r 7)) (nv (r 7)) (kd (r 8)) (nv (r 8)) (kd (r 9)) (nv (r 9)) (p:Int) (st:Int) a c o) (by
       intro q hq;rcases List.mem_cons.1 hq with rfl|hq
       ·exact q1
       ·rcases List.mem_cons.1 hq with rfl|hq
        ·exact q2
        ·obtain rfl:=List.mem_singleton.1 hq;exact q3)
    refine⟨v,m,?_,?_⟩
    ·unfold Gg;rw[hr];exact h1
    ·rw[h2];unfold CD;rw[hat,A7 hst,hr]
  |false=>
   have q3:=q3 false hw;rw[hw]at hq;have hat:Cp (p:Int)=(p':Int):=by rw[A7 hp];simp at hq;omega
   rcases hop with rfl|rfl
   ·obtain⟨v,m,h1,h2⟩:=BU (Ul (AE l) (AN pk) (Fa pk sp) l.length port (kd (r 0)) (nv (r 0)) (kd (r 1)) (nv (r 1)) (kd (r 4)) (nv (r 4)) (kd (r 5)) (nv (r 5)) (kd (r 6)) (nv (r 6)) (kd (r 7)) (nv (r 7)) (kd (r 8)) (nv (r 8)) (kd (r 9)) (nv (r 9)) (p:Int) (st:Int) a c o) (by
       intro q hq;rcases List.mem_cons.1 hq with rfl|hq
       ·exact q1
       ·rcases List.mem_cons.1 hq with rfl|hq
        ·exact q2
        ·obtain rfl:=List.mem_singleton.1 hq;exact q3)
    refine⟨v,m,?_,?_⟩
    ·unfold Gg;rw[hr];exact h1
    ·rw[h2];unfold CD;rw[hat,A7 hst,hr]
   ·obtain⟨v,m,h1,h2⟩:=BU (YZ (AE l) (AN pk) (Fa pk sp) l.length port (kd (r 0)) (nv (r 0)) (kd (r 1)) (nv (r 1)) (kd (r 4)) (nv (r 4)) (kd (r 5)) (nv (r 5)) (kd (r 6)) (nv (r 6)) (kd (r 7)) (nv (r 7)) (kd (r 8)) (nv (r 8)) (kd (r 9)) (nv (r 9)) (p:Int) (st:Int) a c o) (by
       intro q hq;rcases List.mem_cons.1 hq with rfl|hq
       ·exact q1
       ·rcases List.mem_cons.1 hq with rfl|hq
        ·exact q2
        ·obtain rfl:=List.mem_singleton.1 hq;exact q3)
    refine⟨v,m,?_,?_⟩
    ·unfold Gg;rw[hr];exact h1
    ·rw[h2];unfold CD;rw[hat,A7 hst,hr]
 |goto hc hq hlt=>
  rename_i o;obtain⟨q1,q2⟩:=EK hc;refine⟨?_,hR⟩
  obtain⟨v,m,h1,h2⟩:=BU (qa (AE l) (AN pk) (Fa pk sp) l.length port (kd (r 0)) (nv (r 0)) (kd (r 1)) (nv (r 1)) (kd (r 2)) (nv (r 2)) (kd (r 3)) (nv (r 3)) (kd (r 4)) (nv (r 4)) (kd (r 5)) (nv (r 5)) (kd (r 6)) (nv (r 6)) (kd (r 7)) (nv (r 7)) (kd (r 8)) (nv (r 8)) (kd (r 9)) (nv (r 9)) (p:Int) (st:Int) o) (by
   intro q hq;rcases List.mem_cons.1 hq with rfl|hq
   ·exact q1
   ·obtain rfl:=List.mem_singleton.1 hq;exact q2)
  refine⟨v,m,h1,?_⟩;rw[h2];unfold CD;rw[show IntKind.wrap .i64 (Int.add (Cp (p:Int)) (IntKind.wrap .i64 o))=(p':Int)from MX hp hp2 hq,A7 hst];rfl
theorem UK{l:List B9}{pk:List Int}{sp:Option Nat}{port:Int}{p st:Nat}{r:Int->RV}{a:Int}(hst:st<=1000000000)(hc:l[p]?=some DS)(he:r 0= .num a):WL l pk sp port r p st r p (st+1) true:=by
 obtain⟨q1,q2⟩:=EK hc
 have hr:AO r=AK 1 a (kd (r 1)) (nv (r 1)) (kd (r 2)) (nv (r 2)) (kd (r 3)) (nv (r 3)) (kd (r 4)) (nv (r 4)) (kd (r 5)) (nv (r 5)) (kd (r 6)) (nv (r 6)) (kd (r 7)) (nv (r 7)) (kd (r 8)) (nv (r 8)) (kd (r 9)) (nv (r 9)):=by unfold AO;rw[he];rfl
 obtain⟨v,m,h1,h2⟩:=BU (qZ (AE l) (AN pk) (Fa pk sp) l.length port (kd (r 1)) (nv (r 1)) (kd (r 2)) (nv (r 2)) (kd (r 3)) (nv (r 3)) (kd (r 4)) (nv (r 4)) (kd (r 5)) (nv (r 5)) (kd (r 6)) (nv (r 6)) (kd (r 7)) (nv (r 7)) (kd (r 8)) (nv (r 8)) (kd (r 9)) (nv (r 9)) (p:Int) (st:Int) a) (by
   intro q hq;rcases List.mem_cons.1 hq with rfl|hq
   ·exact q1
   ·obtain rfl:=List.mem_singleton.1 hq;exact q2)
 refine⟨v,m,?_,?_⟩
 ·unfold Gg;rw[hr];exact h1
 ·rw[h2];unfold CD;rw[A7 hst,hr]
end
end Go.Proofs.YtgjflcgmieiafaaGreatDoor
namespace Go.Proofs.YtgjflcgmieiafaaGreatDoor
open Go Go.DI Go.DI.Kit Go.Proofs Go.Cmp
noncomputable section
theorem CO:∀x∈gl,Free x:=by
 intro x hx
 simp only[gl,List.mem_cons,List.not_mem_nil,or_false]at hx
 rcases hx with h|h|h|h<;>(rw[h];exact Cn _ _)
theorem hasB{f:FuncId}(h:(match Tryz.prog.funcs[f]? with|some fn=> !fn.body.isNone|none=>false)=true):∃fn,Tryz.prog.funcs[f]?=some fn∧fn.body.isNone=false∧(fn.name== "runtime.NumGoroutine")=false:=by
 cases hf:Tryz.prog.funcs[f]? with
 |none=>rw[hf]at h;cases h
 |some fn=>
  rw[hf]at h;simp only[Bool.not_eq_true']at h;exact⟨fn,rfl,h,Ed f fn hf h⟩
def qx:Value->Nat
 | .slice (some a) _ _=>a.block
 |_=>0
def qy(i:Nat):Value->Value
 | .slice (some ⟨_,o,sp⟩) n c=> .slice (some ⟨i,o,sp⟩) n c
 |v=>v
def bsC(p:Nat):BI->List Nat
 | .cells _ (m::cd::t::pk::_::tm::ch::_)=> [p,qx cd,qx pk,qx t,qx m,qx tm,qx ch]
 |_=> []
def xJ:BI->BI
 | .cells o (m::cd::t::pk::port::tm::ch::rest)=> .cells o (qy 5 m::qy 2 cd::qy 4 t::qy 3 pk::port::qy 6 tm::qy 7 ch::rest)
 |_=> .none
def GV(M:Mem)(p:Nat):List Nat:=bsC p (M.get p)
def Kb(M:Mem)(p:Nat):List BI:=match GV M p with
 |_::l=>xJ (M.get p)::l.map M.get
 | []=> []
abbrev p1:List Value:= [.pointer (some ⟨1,0,none⟩)]
open Classical in
def oM:C1:=λf a M=>match a with
 | [.pointer (some ⟨p,0,none⟩)]=>if f=28/\(∃l,GV M p=p::l)/\Fits gl (GV M p) (Kb M p) M then
   (match CG Tryz.prog kp 1 oG 20 28 p1 (mS gl (Kb M p))with
    |some (v,m)=>if de v=true/\m.get 0= .cells false gl/\∀i,0<i->i<=(GV M p).length->okB (m.get i)then some (QG (DV (GV M p) M) v,sA (GV M p) M m)else none
    |none=>none)else none
 |_=>none
structure ua(M:Mem)(K:CH)(bs:List Nat)(l:List B9)(pk:List Int)(sp:Option Nat)(port:Int)(r:Int->RV)(at_ st:Nat)(over:Bool):Prop where
 hp:Hp M K []
 free:∀b∈bs,K b=none
 fits:Fits gl bs (iR (AE l) (AN pk) (AP l.length) (Fa pk sp) port (AO r) (at_:Int) (st:Int) over 0) M
def Dw:Value->Bool
 | .int _ _=>true
 | .bool _=>true
 |_=>false
theorem YI{ρ:Nat->Nat}{v:Value}(h:Dw v=true):QG ρ v=v:=by cases v<;>simp[Dw]at h<;>rfl
theorem CZ{ρ:Nat->Nat}:∀{l:List Value},l.all Dw=true->l.map (QG ρ)=l
 | [],_=>rfl
 |v::l,h=>by
  simp only[List.all_cons,Bool.and_eq_true]at h;rw[List.map_cons,YI h.1,CZ h.2]
theorem F9{v:Value}(h:Dw v=true):de v=true:=by cases v<;>simp[Dw]at h<;>rfl
theorem Dv{v:Value}{n:Nat}(h:Dw v=true):Go.DI.Kit.seenV n v=true:=by cases v<;>simp[Dw]at h<;>rfl
theorem BR(l:List B9):(AE l).all Dw=true:=by
 unfold AE
 rw[List.all_flatMap,List.all_eq_true]
 intro x _
 rfl
theorem DN(pk:List Int):(AN pk).all Dw=true:=by
 unfold AN
 rw[List.all_map,List.all_eq_true]
 intro x _
 rfl
def PW(regs:List Value)(at_ st:Int)(over:Bool):List Value:=regs++(bD++ [.int .i64 at_, .int .i64 st, .bool over, .int .i64 0])
theorem OE(r:Int->RV)(at_ st:Int)(over:Bool):(PW (AO r) at_ st over).all Dw=true:=by kernel_rfl
theorem Wb(n:Nat)(pk:List Int)(sp:Option Nat)(port:Int)(r:Int->RV)(at_ st:Int)(over:Bool):
  iQ (AP n) (Fa pk sp) port (AO r) at_ st over 0= .cells true (kv 5::AP n::kv 4::Fa pk sp:: .int .u32 port::kv 6::kv 7::PW (AO r) at_ st over):=rfl
theorem Qb(ρ:Nat->Nat)(n:Nat)(pk:List Int)(sp:Option Nat)(port:Int)(r:Int->RV)(at_ st:Int)(over:Bool):
  Gm ρ (iQ (AP n) (Fa pk sp) port (AO r) at_ st over 0)= .cells true (.slice (some ⟨ρ 5,0,none⟩) 0 0:: .slice (some ⟨ρ 2,0,some 5⟩) n n:: .slice (some ⟨ρ 4,0,none⟩) 0 0:: .slice (some ⟨ρ 3,0,sp⟩) pk.length pk.length:: .int .u32 port:: .slice (some ⟨ρ 6,0,none⟩) 0 0:: .slice (some ⟨ρ 7,0,none⟩) 0 0::PW (AO r) at_ st over):=by
 rw[Wb]
 show BI.cells true (_::_::_::_::_::_::_::(PW (AO r) at_ st over).map (QG ρ))=_
 rw[CZ (OE ..)]
 rfl
theorem cA(l:List B9)(pk:List Int)(sp:Option Nat)(port:Int)(r:Int->RV)(at_ st:Int)(over:Bool):∀s∈iR (AE l) (AN pk) (AP l.length) (Fa pk sp) port (AO r) at_ st over 0,okB s/\seenB (1+7) s:=by
 have hpl:∀c:List Value,c.all Dw=true->okB (.cells true c)/\seenB (1+7) (.cells true c):=λc h=>⟨λv hv=>F9 (List.all_eq_true.1 h v hv),λv hv=>Dv (List.all_eq_true.1 h v hv)⟩
 intro s hs
 simp only[iR,List.mem_cons,List.not_mem_nil,or_false]at hs
 rcases hs with rfl|rfl|rfl|rfl|rfl|rfl|rfl
 ·have ht:=hpl _ (OE r at_ st over);rw[Wb];constructor
  ·intro v hv;simp only[List.mem_cons]at hv;rcases hv with rfl|rfl|rfl|rfl|rfl|rfl|rfl|hv
   ·rfl
   ·rfl
   ·rfl
   ·rfl
   ·rfl
   ·rfl
   ·rfl
   ·exact ht.1 v hv
  ·intro v hv;simp only[List.mem_cons]at hv;rcases hv with rfl|rfl|rfl|rfl|rfl|rfl|rfl|hv
   ·rfl
   ·rfl
   ·rfl
   ·rfl
   ·rfl
   ·rfl
   ·rfl
   ·exact ht.2 v hv
 ·exact hpl _ (BR l)
 ·exact hpl _ (DN pk)
 all_goals exact hpl _ rfl
theorem seven{bs:List Nat}(h:bs.length=7):∃p c k t mm tm ch,bs= [p,c,k,t,mm,tm,ch]:=by
 match bs,h with
 | [p,c,k,t,mm,tm,ch],_=>exact⟨p,c,k,t,mm,tm,ch,rfl⟩
section
variable{M:Mem}{K:CH}{p c k t mm tm ch:Nat}{l:List B9}{pk:List Int}{sp:Option Nat}{port:Int}{r r':Int->RV}{at_ st at' st':Nat}{over:Bool}
theorem ua.get(h:ua M K [p,c,k,t,mm,tm,ch] l pk sp port r at_ st over):
  M.get p= .cells true (.slice (some ⟨mm,0,none⟩) 0 0:: .slice (some ⟨c,0,some 5⟩) l.length l.length:: .slice (some ⟨t,0,none⟩) 0 0:: .slice (some ⟨k,0,sp⟩) pk.length pk.length:: .int .u32 port:: .slice (some ⟨tm,0,none⟩) 0 0:: .slice (some ⟨ch,0,none⟩) 0 0::PW (AO r) (at_:Int) (st:Int) over)/\
  M.get c= .cells true (AE l)/\M.get k= .cells true (AN pk)/\M.get t=GR/\M.get mm=GR/\M.get tm=GR/\M.get ch=GR:=by
 have hf:=h.fits.at_
 refine⟨(hf 0 p _ rfl rfl).trans (Qb ..),?_,?_,(hf 3 t _ rfl rfl).trans rfl,(hf 4 mm _ rfl rfl).trans rfl,(hf 5 tm _ rfl rfl).trans rfl,(hf 6 ch _ rfl rfl).trans rfl⟩
 ·refine(hf 1 c _ rfl rfl).trans ?_;show BI.cells true ((AE l).map _)=_;rw[CZ (BR l)]
 ·refine(hf 2 k _ rfl rfl).trans ?_;show BI.cells true ((AN pk).map _)=_;rw[CZ (DN pk)]
theorem ua.of(h:ua M K [p,c,k,t,mm,tm,ch] l pk sp port r at_ st over):GV M p= [p,c,k,t,mm,tm,ch]/\Kb M p=iR (AE l) (AN pk) (AP l.length) (Fa pk sp) port (AO r) (at_:Int) (st:Int) over 0:=by
 obtain⟨g1,g2,g3,g4,g5,g6,g7⟩:=h.get
 have hb:GV M p= [p,c,k,t,mm,tm,ch]:=by unfold GV;rw[g1];rfl
 refine⟨hb,?_⟩
 unfold Kb
 rw[hb]
 show xJ (M.get p):: [M.get c,M.get k,M.get t,M.get mm,M.get tm,M.get ch]=_
 rw[g1,g2,g3,g4,g5,g6,g7]
 rfl
end
end
end Go.Proofs.YtgjflcgmieiafaaGreatDoor
namespace Go.DI
namespace Kit
noncomputable section
def xr(kp:Nat->Bool)(bs:List Nat)(M m:Mem):Mem:=
 ⟨λj=>if j<M.size then(match bs.idxOf? j with|some i=>Gm (DV bs M) (m.get (i+1))|none=>M.get j)else if j<M.size+(m.size - (1+bs.length))/\kp (j - M.size+1+bs.length)=true then Gm (DV bs M) (m.get (j - M.size+1+bs.length))else .none, .nil,M.size+(m.size - (1+bs.length))⟩
section
variable{P:Program}{K:TypeId->Bool}{gl:List Value}
theorem KN{ρ:Nat->Nat}{k:Nat->Bool}{a a':List Value}(h:HO ρ k a a'):QH ρ k (.agg ⟨a⟩) (.agg ⟨a'⟩):=λι v' g=>by
 obtain⟨b,rfl,hb⟩:=g.inv_agg
 have:=h.rel hb
 have e:b=b.toList.toArray:=by simp
 rw[e]
 exact AZ.agg' this
end
end
end Kit
end Go.DI
namespace Go.DI
namespace Kit
noncomputable section
def VU(ρ:Nat->Nat)(A:Nat->Bool)(vs v:Value):Prop:=∀(ι κ:Ren) (v':Value),(∀i L,A i=true->ι i=some L->κ (ρ i)=some L)->AZ ι vs v'->AZ κ v v'
structure VV(ρ:Nat->Nat)(A:Nat->Bool)(bs b:BI):Prop where
 live:b.live->bs.live
 own:b.own=true->bs.own=true
 rel:∀(B0:Nat) (ι κ:Ren) (L:Loc) (w:World),(∀i L,A i=true->ι i=some L->κ (ρ i)=some L)->Bg B0 ι bs L w->Bg B0 κ b L w
theorem _root_.Go.DI.Free.embA{v:Value}(h:Free v)(ρ:Nat->Nat)(A:Nat->Bool):VU ρ A v v:=λι κ v' _ g=>h ι κ v' g
theorem VW{v:Value}(h:de v=true):QG id v=v:=by
 unfold de at h
 split at h<;>try (simp at h;done)
 ·rename_i a n c;cases a<;>rfl
 all_goals rfl
theorem sub_id(ι:Ren)(A:Nat->Bool)(i:Nat)(L:Loc)(h:(ι.sub id A) i=some L):A i=true/\ι i=some L:=by
 simp only[Ren.sub]at h
 split at h
 ·rename_i g;exact⟨g,h⟩
 ·cases h
theorem renB_id{b:BI}(h:okB b):Gm id b=b:=by
 cases b with
 |none=>rfl
 |map=>exact h.elim
 |siter=>exact h.elim
 |cells o c=>
  show BI.cells o (c.map (QG id))=_;congr 1;exact(List.map_congr_left λv hv=>VW (h v hv)).trans (List.map_id _)
theorem Oy{ρ:Nat->Nat}{nb:Nat}{b:BI}(h:okB b)(hs:seenB nb b):VV ρ (λi=>Nat.blt i nb) b (Gm ρ b):=by
 have h1:=bsim_ren (ρ:=id) h hs
 rw[renB_id h]at h1
 have h2:=Rd (ρ:=ρ) h
 exact⟨h2.live,h2.own,λB0 ι κ L w hm g=>h2.rel B0 _ κ L w (λi L hi=>by obtain⟨a,b⟩:=sub_id _ _ _ _ hi;exact hm i L a b) (h1.rel B0 ι L w g)⟩
theorem NO{ρ:Nat->Nat}{A:Nat->Bool}{o:Bool}{c:List Value}(h:∀x∈c,Free x):VV ρ A (.cells o c) (.cells o c):=by
 have h1:QJ id A (.cells o c) (.cells o c):=FG h
 have h2:Td ρ (.cells o c) (.cells o c):=Il h
 exact⟨h2.live,h2.own,λB0 ι κ L w hm g=>h2.rel B0 _ κ L w (λi L hi=>by obtain⟨a,b⟩:=sub_id _ _ _ _ hi;exact hm i L a b) (h1.rel B0 ι L w g)⟩
theorem Xj{ρ:Nat->Nat}{x:BI}(h:(Gm ρ x).live):x.live:=by cases x<;>first|trivial|exact h.elim
theorem aA{ρ:Nat->Nat}{x:BI}(h:(Gm ρ x).own=true):x.own=true:=by cases x<;>first|exact h|exact absurd h (by simp[Gm,BI.own])
theorem Xk{ρ:Nat->Nat}{x:BI}(ho:okB x)(h:x.live):(Gm ρ x).live:=by cases x<;>first|trivial|exact h.elim|exact ho.elim
theorem aB{ρ:Nat->Nat}{x:BI}(ho:okB x)(h:x.own=true):(Gm ρ x).own=true:=by cases x<;>first|exact h|exact ho.elim
structure aC(ρ:Nat->Nat)(A:Nat->Bool)(ms ms' M M':Mem):Prop where
 sees:∀i,A i=true->i<ms.size
 grw:EL ms ms'
 top:ms.top
 top':M'.top
 old:∀i,A i=true->ρ i<M.size
 inj:∀i j,A i=true->A j=true->(ms.get i).live->(ms.get j).live->ρ i=ρ j->i=j
 size:M'.size=M.size
 sim:∀i,A i=true->QJ ρ A (ms.get i) (M.get (ρ i))
 emb:∀i,A i=true->VV ρ A (ms'.get i) (M'.get (ρ i))
 rest:∀b,b<M.size->(∀i,A i=true->ρ i≠b)->M'.get b=M.get b
theorem aD{P:Program}{B0 G:Nat}(Gs:Nat){f:FuncId}{avs args:List Value}{vs v:Value}{ms ms' M M':Mem}{ρ:Nat->Nat}{A:Nat->Bool}(hG:∀g,g<Gs->g<G/\A g=true/\ρ g=g)(run:EI P B0 Gs f avs ms vs ms')(h:aC ρ A ms ms' M M')
  (ha:HO ρ A avs args) (hv:VU ρ A vs v):EI P B0 G f args M v M':=by
 intro ι w args' hr hf hargs
 have hms:=h.grw.size
 have hrs:Rel B0 Gs (ι.sub ρ A) ms w:=by
  refine⟨λb L hb hL=>?_,λb₁ b₂ L₁ L₂ h1 h2 e1 e2 l1 l2 g0 e=>?_,hr.floor,λg hg=>?_,λb hb=>h.top b hb⟩
  ·simp only[Ren.sub]at hL;split at hL
   ·rename_i hb;exact(h.sim b hb).rel _ _ _ _ (hr.blk _ _ (h.old b hb) hL)
   ·simp at hL
  ·simp only[Ren.sub]at e1 e2;split at e1
   ·rename_i h1;split at e2
    ·rename_i h2;exact h.inj _ _ h1 h2 l1 l2 (hr.inj _ _ _ _ (h.old _ h1) (h.old _ h2) e1 e2 ((h.sim _ h1).live l1) ((h.sim _ h2).live l2) g0 e)
    ·simp at e2
   ·simp at e1
  ·obtain⟨q1,q2,q3⟩:=hG g hg;obtain⟨L,p1,p2⟩:=hr.glob g q1;exact⟨L,by simp only[Ren.sub,q2,if_true,q3];exact p1,p2⟩
 refine(run _ w args' hrs (λb h1 _=>by simp only[Ren.sub];rw[if_neg (λg=>by have:=h.sees b g;omega)]) (ha.rel hargs)).mono ?_
 rintro e w' ⟨v',ι₂,he,hv',hr',hs⟩
 have hι₂old:∀i,A i=true->ι₂ i=ι (ρ i):=λi hi=>by
  rw[hs.out i (.inl (h.sees i hi))];simp only[Ren.sub,hi,if_true]
 have hmap:∀i L,A i=true->ι₂ i=some L->ι (ρ i)=some L:=λi L hi hL=>by rw[←hι₂old i hi];exact hL
 have hframe:∀B,B<w.heap.size->(∀b L,b<M.size->ι b=some L->(M.get b).own=true->L.block≠B)->w'.heap[B]?=w.heap[B]?:=by
  intro B hB hno;refine hs.frame B hB λi L hi hL ho=>?_;simp only[Ren.sub]at hL;split at hL
  ·rename_i hi;exact hno _ _ (h.old i hi) hL ((h.sim i hi).own ho)
  ·simp at hL
 have hsz:=h.size
 refine⟨v',ι,he,hv _ _ _ hmap hv',⟨λb L hb hL=>?_,λb₁ b₂ L₁ L₂ h1 h2 e1 e2 l1 l2 g0 e=>?_,hr'.floor,hr.glob,h.top'⟩,
  ⟨λ_ _ h=>h,λ_ _=>rfl,hs.os,hs.output,hs.tape,hs.hsize,hframe,λb L h1 h2 hL=>by omega,by omega,λb hb ho=>?_⟩⟩
 ·by_cases hx:∃i,A i=true/\ρ i=b
  ·obtain⟨i,hi,rfl⟩:=hx;have hi0:=h.sees i hi;exact(h.emb i hi).rel _ _ _ _ _ hmap (hr'.blk _ _ (by omega) (by rw[hι₂old i hi];exact hL))
  ·have h1:b<M.size:=by omega
   have h2:∀i,A i=true->ρ i≠b:=λi hi e=>hx ⟨i,hi,e⟩;rw[h.rest b h1 h2];have hb0:=hr.blk b L h1 hL;by_cases hl:(M.get b).live
   ·refine Bg.mono (λ_ _ h=>h) (hs.frame _ (hr.old _ _ hL hl) λi L' q1 q2 q3 q4=>?_) hb0;simp only[Ren.sub]at q2;split at q2
    ·rename_i q1;exact h2 i q1 (hr.inj _ _ _ _ (h.old i q1) h1 q2 hL (QK ((h.sim i q1).own q3)) hl ((hr.blk _ _ (h.old i q1) q2).own_floor ((h.sim i q1).own q3)) q4)
    ·simp at q2
   ·cases hg:M.get b with
    |none=>trivial
    |cells=>rw[hg]at hl;exact absurd trivial hl
    |map=>rw[hg]at hl;exact absurd trivial hl
    |siter=>rw[hg]at hl;exact absurd trivial hl
 ·have hl:∀b,b<M.size->(M'.get b).live->(M.get b).live:=λb hb l=>by
   by_cases hx:∃i,A i=true/\ρ i=b
   ·obtain⟨i,hi,rfl⟩:=hx;exact(h.sim i hi).live (h.grw.live i (h.sees i hi) ((h.emb i hi).live l))
   ·rw[h.rest b hb (λi hi e=>hx ⟨i,hi,e⟩)]at l;exact l
  exact hr.inj _ _ _ _ (by omega) (by omega) e1 e2 (hl _ (by omega) l1) (hl _ (by omega) l2) g0 e
 ·by_cases hx:∃i,A i=true/\ρ i=b
  ·obtain⟨i,hi,rfl⟩:=hx;have hi0:=h.sees i hi;exact(h.sim i hi).own (hs.ownk i hi0 ((h.emb i hi).own ho))
  ·rw[h.rest b hb (λi hi e=>hx ⟨i,hi,e⟩)]at ho;exact ho
section
variable{P:Program}{K:TypeId->Bool}{gl:List Value}
theorem VX{B0:Nat}{R:FuncId->List Value->Mem->Option (Value×Mem)}(hgl:∀x∈gl,Free x)(hR:CR P B0 1 R)(hRg:B5 R){bs:List Nat}{ss:List BI}{f:FuncId}{as_ args:List Value}{M M' m:Mem}{v v':Value}
  (hM:Fits gl bs ss M) (hrun:R f as_ (mS gl ss)=some (v,m)) (ha:HO (DV bs M) (λi=>Nat.blt i (1+bs.length)) as_ args) (hv:VU (DV bs M) (λi=>Nat.blt i (1+bs.length)) v v')
  (h0:m.get 0= .cells false gl) (hm:∀i,0<i->i<=bs.length->okB (m.get i)/\seenB (1+bs.length) (m.get i))
  (ht:M'.top) (hsz':M'.size=M.size) (hat:∀i b,bs[i]?=some b->M'.get b=Gm (DV bs M) (m.get (i+1))) (hre:∀j,j<M.size->j∉bs->M'.get j=M.get j):
  EI P B0 1 f args M v' M'/\EL M M':=by
 have hgr:=hRg _ _ _ _ _ hrun
 have hsz0:(mS gl ss).size=1+ss.length:=by unfold mS;rw[Cm,mG_size]
 have hsz:=hgr.size
 rw[hsz0,←hM.len]at hsz
 have hA:∀i:Nat,Nat.blt i (1+bs.length)=true->i<1+bs.length:=λi hi=>by simpa[Nat.blt_eq]using hi
 have hA':∀i:Nat,i<1+bs.length->Nat.blt i (1+bs.length)=true:=λi hi=>by simpa[Nat.blt_eq]using hi
 have hget:∀j,(mS gl ss).get j=if j<1 then(mG gl).get j else(match ss[j - 1]? with|some x=>x|none=>(mG gl).get j):=λj=>CM ss (mG gl) j
 have hrho2:∀i,i<bs.length->∃b,bs[i]?=some b/\DV bs M (i+1)=b:=λi hi=>⟨bs[i],List.getElem?_eq_getElem hi,by
  show(match bs[i]? with|some b=>b|none=>M.size+(i - bs.length))=_;rw[List.getElem?_eq_getElem hi]⟩
 have hidx:∀i j b,bs[i]?=some b->bs[j]?=some b->i=j:=λi j b hb hc=>by
  obtain⟨hi,e1⟩:=List.getElem?_eq_some_iff.1 hb;obtain⟨hj,e2⟩:=List.getElem?_eq_some_iff.1 hc;exact(List.getElem_inj hM.nd).1 (e1.trans e2.symm)
 have hz:0∉bs->M'.get 0=M.get 0:=λh=>hre 0 hM.pos h
 have hloc:aC (DV bs M) (λi=>Nat.blt i (1+bs.length)) (mS gl ss) m M M':=by
  refine⟨λi hi=>(by rw[hsz0,←hM.len];exact hA i hi),hgr,λj hj=>?_,ht,λi hi=>?_,λi j hi hj _ _ e=>?_,hsz',λi hi=>?_,λi hi=>?_,λj hj hne=>?_⟩
  ·rw[hsz0]at hj;rw[hget,if_neg (by omega),List.getElem?_eq_none (by omega)];exact mG_top gl j (by rw[mG_size];omega)
  ·cases i with
   |zero=>exact hM.pos
   |succ i=>
    obtain⟨b,hb,e⟩:=hrho2 i (by have:=hA _ hi;omega);rw[e];exact hM.lt b (List.mem_of_getElem? hb)
  ·have hi:=hA i hi;have hj:=hA j hj;cases i with
   |zero=>
    cases j with
    |zero=>rfl
    |succ j=>
     obtain⟨b,hb,e2⟩:=hrho2 j (by omega);rw[e2]at e;have:b=0:=e.symm;subst this;exact absurd (List.mem_of_getElem? hb) hM.nz
   |succ i=>
    obtain⟨b,hb,e1⟩:=hrho2 i (by omega);cases j with
    |zero=>
     rw[e1]at e;have:b=0:=e;subst this;exact absurd (List.mem_of_getElem? hb) hM.nz
    |succ j=>
     obtain⟨c,hc,e2⟩:=hrho2 j (by omega);rw[e1,e2]at e;subst e;rw[hidx i j b hb hc]
  ·have hi':=hA i hi;cases i with
   |zero=>
    rw[hget,if_pos (by omega),mG_get];show QJ _ _ _ (M.get 0);rw[hM.gl0];exact FG hgl
   |succ i=>
    obtain⟨b,hb,e⟩:=hrho2 i (by omega);have hs:i<ss.length:=by rw[←hM.len];omega
    rw[hget,if_neg (by omega),show i+1 - 1=i by omega,List.getElem?_eq_getElem hs,e,hM.at_ i b ss[i] hb (List.getElem?_eq_getElem hs)];obtain⟨q1,q2⟩:=hM.ok ss[i] (List.getElem_mem hs);exact bsim_ren q1 q2
  ·have hi':=hA i hi;cases i with
   |zero=>
    rw[h0];show VV _ _ _ (M'.get 0);rw[hz hM.nz,hM.gl0];exact NO hgl
   |succ i=>
    obtain⟨b,hb,e⟩:=hrho2 i (by omega);rw[e,hat i b hb];obtain⟨q1,q2⟩:=hm (i+1) (by omega) (by omega);exact Oy q1 q2
  ·refine hre j hj λhmem=>?_;obtain⟨i,hi⟩:=List.getElem?_of_mem hmem;have hlt:i<bs.length:=(List.getElem?_eq_some_iff.1 hi).1;obtain⟨b,hb,e⟩:=hrho2 i hlt;rw[hi]at hb;cases hb;exact hne (i+1) (hA' _ (by omega)) e
 have hatM:∀j,j<M.size->j∈bs->∃i s,okB s/\M.get j=Gm (DV bs M) s/\(mS gl ss).get (i+1)=s/\i+1< (mS gl ss).size/\M'.get j=Gm (DV bs M) (m.get (i+1)):=λj hj hmem=>by
  obtain⟨i,hi⟩:=List.getElem?_of_mem hmem;have hlt:i<bs.length:=(List.getElem?_eq_some_iff.1 hi).1;have hs:i<ss.length:=by rw[←hM.len];exact hlt
  refine⟨i,ss[i],(hM.ok _ (List.getElem_mem hs)).1,hM.at_ i j _ hi (List.getElem?_eq_getElem hs),?_,by rw[hsz0];omega,hat i j hi⟩;rw[hget,if_neg (by omega),show i+1 - 1=i by omega,List.getElem?_eq_getElem hs]
 refine⟨aD 1 (λg hg=>⟨hg,by
  obtain rfl:g=0:=by omega
  exact hA' 0 (by omega),by
   obtain rfl:g=0:=by omega
   rfl⟩) (hR.ok _ _ _ _ _ hrun) hloc ha hv,⟨by omega,λ_=>ht,λj hj hl=>?_,λj hj ho=>?_⟩⟩
 ·by_cases hmem:j∈bs
  ·obtain⟨i,s,q1,q2,q3,q4,q5⟩:=hatM j hj hmem;rw[q5]at hl;have h1:=hgr.live (i+1) q4 (Xj hl);rw[q3]at h1;rw[q2];exact Xk q1 h1
  ·rw[hre j hj hmem]at hl;exact hl
 ·by_cases hmem:j∈bs
  ·obtain⟨i,s,q1,q2,q3,q4,q5⟩:=hatM j hj hmem;rw[q5]at ho;have h1:=hgr.own (i+1) q4 (aA ho);rw[q3]at h1;rw[q2];exact aB q1 h1
  ·rw[hre j hj hmem]at ho;exact ho
theorem NP{B0:Nat}{R:FuncId->List Value->Mem->Option (Value×Mem)}(hgl:∀x∈gl,Free x)(hR:CR P B0 1 R)(hRg:B5 R){bs:List Nat}{ss:List BI}{f:FuncId}{as_ args:List Value}{M m:Mem}{v v':Value}
  (hM:Fits gl bs ss M) (hrun:R f as_ (mS gl ss)=some (v,m)) (ha:HO (DV bs M) (λi=>Nat.blt i (1+bs.length)) as_ args) (hv:VU (DV bs M) (λi=>Nat.blt i (1+bs.length)) v v')
  (h0:m.get 0= .cells false gl) (hm:∀i s,ss[i]?=some s->m.get (i+1)=s):EI P B0 1 f args M v' M/\EL M M:=by
 refine VX hgl hR hRg hM hrun ha hv h0 (λi h1 h2=>?_) hM.top rfl (λi b hb=>?_) (λ_ _ _=>rfl)
 ·have hi:i - 1<ss.length:=by rw[←hM.len];omega
  have:=hm (i - 1) ss[i - 1] (List.getElem?_eq_getElem hi);rw[show i - 1+1=i by omega]at this;rw[this];exact hM.ok _ (List.getElem_mem hi)
 ·have hlt:i<bs.length:=(List.getElem?_eq_some_iff.1 hb).1;have hi:i<ss.length:=by rw[←hM.len];exact hlt
  rw[hm i ss[i] (List.getElem?_eq_getElem hi)];exact hM.at_ i b _ hb (List.getElem?_eq_getElem hi)
end
end
end Kit
end Go.DI
namespace Go.DI
theorem Tr.upd_upd{α:Type}(k:Nat)(v w:α):∀l:List (Nat×α),Tr.upd k w (Tr.upd k v l)=Tr.upd k w l
 | []=>by
  show cond (Nat.beq k k) [(k,w)] _=_;rw[show Nat.beq k k=true from Nat.beq_refl k];rfl
 |(j,u)::l=>by
  cases hb:Nat.beq j k with
  |true=>
   have e1:Tr.upd k v ((j,u)::l)=(k,v)::l:=by simp only[Tr.upd,hb,cond_true]
   have e2:Tr.upd k w ((j,u)::l)=(k,w)::l:=by simp only[Tr.upd,hb,cond_true]
   rw[e1,e2];simp only[Tr.upd,show Nat.beq k k=true from Nat.beq_refl k,cond_true]
  |false=>
   have e1:∀v,Tr.upd k v ((j,u)::l)=(j,u)::Tr.upd k v l:=λv=>by simp only[Tr.upd,hb,cond_false]
   rw[e1 v,e1 w];show cond (Nat.beq j k) _ _=_;rw[hb,cond_false,upd_upd k v w l]
theorem Tr.put_new{α:Type}(k:Nat)(v w:α):∀(d p d':Nat),Tr.put (Tr.new d p k v) d' p k w=Tr.new d p k w
 |0,p,d'=>by
  show Tr.bucket (Tr.upd k w [(k,v)])= .bucket [(k,w)];simp only[Tr.upd,show Nat.beq k k=true from Nat.beq_refl k,cond_true]
 |d+1,p,d'=>by
  cases hb:Nat.beq (p % 2) 0 with
  |true=>simp only[Tr.new,hb,cond_true,Tr.put,put_new k v w d]
  |false=>simp only[Tr.new,hb,cond_false,Tr.put,put_new k v w d]
theorem Tr.put_put{α:Type}(k:Nat)(v w:α):∀(t:Tr α) (d p:Nat),Tr.put (Tr.put t d p k v) d p k w=Tr.put t d p k w
 | .nil,d,p=>Tr.put_new k v w d p d
 | .bucket l,d,p=>by simp only[Tr.put,Tr.upd_upd]
 | .node l r,d,p=>by
  cases hb:Nat.beq (p % 2) 0 with
  |true=>simp only[Tr.put,hb,cond_true,put_put k v w l]
  |false=>simp only[Tr.put,hb,cond_false,put_put k v w r]
theorem Mem.set_set(M:Mem)(p:Nat)(x y:BI):(M.set p x).set p y=M.set p y:=by
 simp only[Mem.set,Tr.put_put]
end Go.DI
namespace Go.Proofs.YtgjflcgmieiafaaGreatDoor
open Go Go.DI Go.DI.Kit Go.Proofs Go.Cmp
noncomputable section
open Classical in
def oS:C1:=λf a M=>match a with
 | [.pointer (some ⟨p,0,none⟩)]=>if f=28/\(∃l,GV M p=p::l)/\Fits gl (GV M p) (Kb M p) M then
   (match CG Tryz.prog kp 1 oG 20 28 p1 (mS gl (Kb M p))with
    |some (v,m)=>if(Dw v=true/\m.get 0= .cells false gl)/\(okB (m.get 1)/\seenB (1+(GV M p).length) (m.get 1))/\∀i s,(Kb M p)[i+1]?=some s->m.get (i+2)=s then some (v,M.set p (Gm (DV (GV M p) M) (m.get 1)))else none
    |none=>none)else none
 |_=>none
theorem om{f:FuncId}(h:f≠28)(a:List Value)(M:Mem):oS f a M=none:=by
 unfold oS
 split
 ·rw[if_neg λg=>h g.1]
 ·rfl
theorem Qh{B0:Nat}{f:FuncId}{a:List Value}{M M':Mem}{v:Value}(h:oS f a M=some (v,M')):f=28/\EI Tryz.prog B0 1 f a M v M'/\EL M M':=by
 unfold oS at h
 split at h
 case h_2=>cases h
 rename_i p
 by_cases hc:f=28/\(∃l,GV M p=p::l)/\Fits gl (GV M p) (Kb M p) M
 case neg=>rw[if_neg hc]at h;cases h
 rw[if_pos hc]at h
 obtain⟨rfl,⟨l,hl⟩,hF⟩:=hc
 obtain⟨R,hR⟩:∃R,CG Tryz.prog kp 1 oG 20 28 p1 (mS gl (Kb M p))=R:=⟨_,rfl⟩
 rw[hR]at h
 cases R with
 |none=>cases h
 |some r=>
 obtain⟨v0,m⟩:=r
 simp only at h
 by_cases hk:(Dw v0=true/\m.get 0= .cells false gl)/\(okB (m.get 1)/\seenB (1+(GV M p).length) (m.get 1))/\∀i s,(Kb M p)[i+1]?=some s->m.get (i+2)=s
 case neg=>rw[if_neg hk]at h;cases h
 rw[if_pos hk]at h
 simp only[Option.some.injEq,Prod.mk.injEq]at h
 obtain⟨rfl,rfl⟩:=h
 obtain⟨⟨k1,k2⟩,⟨k3,k4⟩,k5⟩:=hk
 have hp:p<M.size:=hF.lt p (by rw[hl];exact List.mem_cons_self ..)
 have hfree:Free v0:=by cases v0<;>simp[Dw]at k1<;>first|exact Cn _ _|exact De _
 have hnd:p∉l:=by have:=hF.nd;rw[hl]at this;exact(List.nodup_cons.1 this).1
 refine⟨rfl,VX (B0:=B0) (R:=CG Tryz.prog kp 1 oG 20) CO (Co Bu hK Ed (cJ.1 B0) cJ.2 20) (CK cJ.2 20) hF hR (.cons ?_ .nil) (hfree.embA _ _) k2 (λi h0 h7=>?_) (FQ hF.top hp) rfl (λi b hb=>?_) (λj _ hj=>?_)⟩
 ·have e:Value.pointer (some ⟨p,0,none⟩)= .pointer (some ⟨DV (GV M p) M 1,0,none⟩):=by
   rw[show DV (GV M p) M 1=p by rw[hl];rfl]
  rw[e];refine VS (ρ:=DV (GV M p) M) ?_;rw[hl];show Nat.blt 1 (1+(l.length+1))=true;simp[Nat.blt_eq]
 ·by_cases e:i=1
  ·subst e;exact⟨k3,k4⟩
  ·obtain⟨j,rfl⟩:∃j,i=j+2:=⟨i - 2,by omega⟩;have hj:j+1< (Kb M p).length:=by rw[←hF.len];omega
   rw[k5 j _ (List.getElem?_eq_getElem hj)];exact hF.ok _ (List.getElem_mem hj)
 ·cases i with
  |zero=>
   rw[hl]at hb;have hb:some p=some b:=hb;cases hb;exact Mem.get_set_same ..
  |succ i=>
   have hlt:i+1< (GV M p).length:=(List.getElem?_eq_some_iff.1 hb).1;have hj:i+1< (Kb M p).length:=by rw[←hF.len];exact hlt
   have hne:b≠p:=by
    rintro rfl;rw[hl]at hb;exact hnd (List.mem_of_getElem? (show l[i]?=some b from hb))
   rw[Mem.get_set_ne _ hne,k5 i _ (List.getElem?_eq_getElem hj)];exact hF.at_ (i+1) b _ hb (List.getElem?_eq_getElem hj)
 ·refine Mem.get_set_ne _ ?_ _;rintro rfl;rw[hl]at hj;exact hj (List.mem_cons_self ..)
theorem bS:B5 oS:=λf a M v M' h=>(Qh (B0:=0) h).2.2
theorem lQ(B0:Nat):CR Tryz.prog B0 1 oS:=⟨λf a M v M' h=>(bS f a M v M' h).size,λf a M v M' h=>(Qh h).2.1,λf a M v M' h=>by
 obtain rfl:=(Qh (B0:=0) h).1
 exact hasB (by kernel_rfl)⟩
def FO(mm c t k tm ch n np:Nat)(sp:Option Nat)(port:Int)(regs:List Value)(at_ st:Int)(over:Bool):BI:=
 .cells true (.slice (some ⟨mm,0,none⟩) 0 0:: .slice (some ⟨c,0,some 5⟩) n n:: .slice (some ⟨t,0,none⟩) 0 0:: .slice (some ⟨k,0,sp⟩) np np:: .int .u32 port:: .slice (some ⟨tm,0,none⟩) 0 0:: .slice (some ⟨ch,0,none⟩) 0 0::PW regs at_ st over)
structure LY(M:Mem)(p c k t mm tm ch:Nat)(l:List B9)(pk:List Int):Prop where
 top:M.top
 gl0:M.get 0= .cells false gl
 pos:1<=M.size
 lt:∀b∈ [p,c,k,t,mm,tm,ch],b<M.size
 nz:0∉ [p,c,k,t,mm,tm,ch]
 nd: [p,c,k,t,mm,tm,ch].Nodup
 gc:M.get c= .cells true (AE l)
 gk:M.get k= .cells true (AN pk)
 gt:M.get t=GR
 gm:M.get mm=GR
 gtm:M.get tm=GR
 gch:M.get ch=GR
section
variable{M:Mem}{p c k t mm tm ch:Nat}{l:List B9}{pk:List Int}{sp:Option Nat}{port:Int}{r r':Int->RV}{at_ st at' st':Nat}{over:Bool}
theorem LY.set(h:LY M p c k t mm tm ch l pk)(x:BI):LY (M.set p x) p c k t mm tm ch l pk:=by
 have hnd:=h.nd
 simp only[List.nodup_cons,List.mem_cons,List.not_mem_nil,or_false,not_or]at hnd
 have hz:0≠p:=λe=>h.nz (by rw[e];simp)
 obtain⟨⟨n1,n2,n3,n4,n5,n6⟩,_⟩:=hnd
 refine⟨FQ h.top (h.lt p (by simp)),?_,h.pos,h.lt,h.nz,h.nd,?_,?_,?_,?_,?_,?_⟩
 ·rw[Mem.get_set_ne _ hz];exact h.gl0
 ·rw[Mem.get_set_ne _ (Ne.symm n1)];exact h.gc
 ·rw[Mem.get_set_ne _ (Ne.symm n2)];exact h.gk
 ·rw[Mem.get_set_ne _ (Ne.symm n3)];exact h.gt
 ·rw[Mem.get_set_ne _ (Ne.symm n4)];exact h.gm
 ·rw[Mem.get_set_ne _ (Ne.symm n5)];exact h.gtm
 ·rw[Mem.get_set_ne _ (Ne.symm n6)];exact h.gch
theorem LY.fits(h:LY M p c k t mm tm ch l pk)(g:M.get p=FO mm c t k tm ch l.length pk.length sp port (AO r) (at_:Int) (st:Int) over):
  Fits gl [p,c,k,t,mm,tm,ch] (iR (AE l) (AN pk) (AP l.length) (Fa pk sp) port (AO r) (at_:Int) (st:Int) over 0) M:=by
 refine⟨h.top,h.gl0,h.pos,rfl,h.lt,h.nz,h.nd,λi b s hi hs=>?_,cA l pk sp port r (at_:Int) (st:Int) over⟩
 rcases i with _|_|_|_|_|_|_|i
 ·cases hi;cases hs;rw[g,Qb];rfl
 ·cases hi;cases hs;rw[h.gc];show _=BI.cells true _;rw[CZ (BR l)]
 ·cases hi;cases hs;rw[h.gk];show _=BI.cells true _;rw[CZ (DN pk)]
 ·cases hi;cases hs;rw[h.gt];rfl
 ·cases hi;cases hs;rw[h.gm];rfl
 ·cases hi;cases hs;rw[h.gtm];rfl
 ·cases hi;cases hs;rw[h.gch];rfl
 ·cases hi
theorem LY.of(h:LY M p c k t mm tm ch l pk)(g:M.get p=FO mm c t k tm ch l.length pk.length sp port (AO r) (at_:Int) (st:Int) over):
  GV M p= [p,c,k,t,mm,tm,ch]/\Kb M p=iR (AE l) (AN pk) (AP l.length) (Fa pk sp) port (AO r) (at_:Int) (st:Int) over 0:=by
 have hb:GV M p= [p,c,k,t,mm,tm,ch]:=by unfold GV;rw[g];rfl
 refine⟨hb,?_⟩
 unfold Kb
 rw[hb]
 show xJ (M.get p):: [M.get c,M.get k,M.get t,M.get mm,M.get tm,M.get ch]=_
 rw[g,h.gc,h.gk,h.gt,h.gm,h.gtm,h.gch]
 rfl
theorem iZ(h:LY M p c k t mm tm ch l pk)(g:M.get p=FO mm c t k tm ch l.length pk.length sp port (AO r) (at_:Int) (st:Int) false)(hs:WL l pk sp port r at_ st r' at' st' over):
  oS 28 [.pointer (some ⟨p,0,none⟩)] M=some (.bool true,M.set p (FO mm c t k tm ch l.length pk.length sp port (AO r') (at':Int) (st':Int) over)):=by
 obtain⟨v,m,hrun,hl⟩:=hs
 obtain⟨e1,e2⟩:=h.of g
 have hF:=h.fits g
 simp only[SO,CD,seenV,Prod.mk.injEq]at hl
 obtain⟨rfl,q0,q1,q2,q3,q4,q5,q6,q7⟩:=hl
 have hv:=cA l pk sp port r' (at':Int) (st':Int) over
 have hv1:=hv _ (List.mem_cons_self ..)
 unfold oS
 simp only
 rw[e1,e2,if_pos ⟨rfl,⟨_,rfl⟩,hF⟩]
 have hrun':CG Tryz.prog kp 1 oG 20 28 p1 (mS gl (iR (AE l) (AN pk) (AP l.length) (Fa pk sp) port (AO r) (at_:Int) (st:Int) false 0))=some (.bool true,m):=hrun
 rw[hrun']
 simp only
 have hk:(Dw (.bool true)=true/\m.get 0= .cells false gl)/\(okB (m.get 1)/\seenB (1+ [p,c,k,t,mm,tm,ch].length) (m.get 1))/\∀i s,(iR (AE l) (AN pk) (AP l.length) (Fa pk sp) port (AO r) (at_:Int) (st:Int) false 0)[i+1]?=some s->m.get (i+2)=s:=by
  refine⟨⟨rfl,q0⟩,⟨by rw[q1];exact hv1.1,by rw[q1];exact hv1.2⟩,λi s hi=>?_⟩;rcases i with _|_|_|_|_|_|i
  ·exact q2.trans (Option.some.inj hi)
  ·exact q3.trans (Option.some.inj hi)
  ·exact q4.trans (Option.some.inj hi)
  ·exact q5.trans (Option.some.inj hi)
  ·exact q6.trans (Option.some.inj hi)
  ·exact q7.trans (Option.some.inj hi)
  ·cases hi
 rw[if_pos hk,q1,Qb]
 rfl
end
end
end Go.Proofs.YtgjflcgmieiafaaGreatDoor
namespace Go.Cmp
open Go Go.DI
inductive Y4:B9->Prop
 |movI {d n:Int}:CL d->Y4 (DU 11 d n)
 |andI {d n:Int}:CL d->Y4 (DU 5 d n)
 |movR {d s:Int}:CL d->CL s->Y4 (Bj 11 d s)
 |andR {d s:Int}:CL d->CL s->Y4 (Bj 5 d s)
 |low {n:Int}:Y4 (HC n)
 |exit:Y4 DS
 |load {z d s o:Int}:Qj z->CL d->CL s->Y4 (BL z d s o)
 |swap {z:Int}:Qj z->1<z->Y4 (Ci z)
inductive na:B9->Prop
 |jif {op d n:Int}:mO op->CL d->na (DO op d n)
 |jifR {op:Int}:op=10\/op=2->na (Ey op)
 |goto:na CC
inductive Un:List BB->Prop
 |nil:Un []
 |lab {l:Nat} {s:List BB}:Un s->Un (lab (l+1)::s)
 |one {x:B9} {s:List BB}:Y4 x->Un s->Un (ins x 0::s)
 |jump {x:B9} {l:Nat} {s:List BB}:na x->Un s->Un (ins x (l+1)::s)
 |two {n:Int} {s:List BB}:Un s->Un (ins (Bq n) 0::ins (DG n) 0::s)
theorem Un.append{a b:List BB}(ha:Un a)(hb:Un b):Un (a++b):=by
 induction ha with
 |nil=>exact hb
 |lab _ ih=>exact .lab ih
 |one h _ ih=>exact .one h ih
 |jump h _ ih=>exact .jump h ih
 |two _ ih=>exact .two ih
theorem rg(d:Int)(h0:0<=d)(h1:d<=9):CL d:=⟨h0,h1⟩
theorem Fx:Un A9:= .one (.movI (rg 2 (by decide) (by decide))) (.one (.movI (rg 3 (by decide) (by decide))) (.one (.load (.inr (.inr (.inl rfl))) (rg 8 (by decide) (by decide)) (rg 6 (by decide) (by decide))) .nil))
theorem Ze(v:Int):Un (Eg v):= .one .low (.one .exit .nil)
theorem Pr(a o:Nat)(n:Int):Un (Cr (a+1) n (o+1)):= .jump (.jif (.inl rfl) (rg 8 (by decide) (by decide))) (.jump .goto (.lab .nil))
theorem VM{op:Int}(h:op=10\/op=2)(n:Int)(o:Nat):Un (Di op n (o+1)):=by
 unfold Di
 split
 ·exact .jump (.jif (by rcases h with rfl|rfl<;>simp[mO]) (rg 2 (by decide) (by decide))) .nil
 ·exact .two (.jump (.jifR h) .nil)
theorem VN{t:A8}(hz:Qj t.size)(o d:Nat):∀m k n:Nat,Un (C6 t (o+1) (d+1) m k n)
 |0,_,_=> .nil
 |m+1,k,n=>by
  have h1:Un [ins (DO 5 2 k) (if k=15 then o+1 else n+1)]:=by
   split<;>exact .jump (.jif (.inr (.inl rfl)) (rg 2 (by decide) (by decide))) .nil
  exact((h1.append (Pr (n+1) o _)).append (.one (.load hz (rg 2 (by decide) (by decide)) (rg 7 (by decide) (by decide))) (.jump .goto (.lab .nil)))).append (VN hz o d m (k+1) (n+2))
theorem nc{t:A8}(hW:KA t)(n:Nat):Un (FZ t n):=by
 have h2:=rg 2 (by decide) (by decide)
 unfold FZ
 split
 ·exact .one (.movR h2 (rg 8 (by decide) (by decide))) .nil
 split
 ·exact .one (.load (.inr (.inr (.inl rfl))) h2 (rg 6 (by decide) (by decide))) .nil
 rename_i k1 k2
 obtain⟨hk,_,hz,_⟩:(t.kind=3\/t.kind=4)/\BY t=true/\Qj t.size/\True:=by
  rcases hW.kind with⟨hk,_⟩|⟨hk,hb,hz,_⟩
  ·omega
  ·exact⟨hk,hb,hz,trivial⟩
 split
 ·exact(Pr (n+2) n _).append (.one (.load hz h2 (rg 7 (by decide) (by decide))) .nil)
 ·exact(((Pr (n+3) n _).append (.one (.load (.inl rfl) h2 (rg 7 (by decide) (by decide))) (.one (.andI h2) .nil))).append (VN hz n (n+2) 16 0 (n+4))).append (.lab .nil)
theorem gL{t:A8}(hW:KA t):Un (Dm t):=by
 unfold Dm
 split
 ·rename_i hb
  have hz:Qj t.size:=by
   rcases hW.kind with⟨_,hb',_⟩|⟨_,_,hz,_⟩
   ·rw[hb]at hb';cases hb'
   ·exact hz
  refine Un.append ?_ ?_
  ·split
   ·rename_i h1;exact .one (.swap hz h1) .nil
   ·exact .nil
  ·split
   ·exact .nil
   split
   ·exact .one (.andI (rg 2 (by decide) (by decide))) .nil
   ·exact .two (.one (.andR (rg 2 (by decide) (by decide)) (rg 3 (by decide) (by decide))) .nil)
 ·exact .nil
theorem Zf(t:A8)(o:Nat):Un (EU t (o+1)):=by
 unfold EU
 refine Un.append ?_ ?_
 ·split
  ·exact VM (.inl rfl) _ _
  ·exact .nil
 ·split
  ·exact VM (.inr rfl) _ _
  ·exact .nil
theorem nf(t:A8)(n f:Nat):Un (endS t (n+1) (n+2) (f+1)):=by
 unfold endS
 split
 ·exact Fx.append (.jump .goto (.lab (.lab .nil)))
 ·exact(((Un.jump .goto (.lab .nil)).append Fx).append (.jump .goto (.lab .nil)))
theorem gM{t:A8}(hW:KA t)(f n:Nat):Un (F0 t (f+1) n):=(((Fx.append (nc hW n)).append (gL hW)).append (Zf t n)).append (nf t n f)
theorem RF(f:Nat):∀(ts:List A8) (n:Nat),(∀t∈ts,KA t)->Un (C2 (f+1) ts n)
 | [],_,_=> .nil
 |t::ts,n,h=>(gM (h t (by simp)) f n).append (RF f ts _ λx hx=>h x (by simp[hx]))
theorem gN{r0:BA}(hW:KB r0)(n:Nat):Un (Gz r0 n):=by
 have h:Un (if r0.tests= []then [ins (DO 5 2 0) (n+1)]else []):=by
  split
  ·exact .jump (.jif (.inr (.inl rfl)) (rg 2 (by decide) (by decide))) .nil
  ·exact .nil
 exact(((Fx.append h).append (RF n r0.tests (n+1) hW.tests)).append (Ze _)).append (.lab .nil)
theorem Mp:∀(l:List BA) (n:Nat),(∀x∈l,KB x)->Un (CQ l n)
 | [],_,_=> .nil
 |r0::l,n,h=>(gN (h r0 (by simp)) n).append (Mp l _ λx hx=>h x (by simp[hx]))
theorem RG{l:List BA}(h:∀x∈l,KB x):Un (BS l):=
 ((Un.append (.one (.movR (rg 6 (by decide) (by decide)) (rg 1 (by decide) (by decide))) (.one (.load (.inr (.inr (.inr rfl))) (rg 7 (by decide) (by decide)) (rg 1 (by decide) (by decide))) .nil)) (Mp l 0 h)).append Fx).append (Ze 0)
def RH(x:B9):Nat:=if x.op=24 then 2 else 1
def Bn(c:List B9):Nat->Nat->List Nat
 |0,_=> []
 |k+1,p=>match c[p]? with|some x=>p::Bn c k (p+RH x)|none=> []
def A5(c:List B9):List Nat:=Bn c c.length 0
def Hx:List BB->Bool->Nat->List Nat
 | [],_,_=> []
 |_::s,true,n=>Hx s false n
 |r::s,false,n=>if B4 r=true then Hx s false n else if r.i.op=24 then n::Hx s true (n+2)else n::Hx s false (n+1)
def DP(l:List BB)(n:Nat):List Nat:=Hx l false n
theorem J0{x:B9}(h:Y4 x):x.op≠24:=by
 cases h with
 |load hz=>rcases hz with rfl|rfl|rfl|rfl<;>simp[BL,Z6]
 |_=>simp[DU,Bj,HC,DS,Ci]
theorem Kw{x:B9}(h:na x):x.op≠24:=by
 cases h with
 |jif h=>rcases h with rfl|rfl|rfl|rfl<;>simp[DO]
 |jifR h=>rcases h with rfl|rfl<;>simp[Ey]
 |goto=>simp[CC]
theorem HG(l n:Nat)(s:List BB):DP (lab (l+1)::s) n=DP s n:=by simp[DP,Hx,B4,lab]
theorem Dp{x:B9}(to n:Nat)(s:List BB)(h:x.op≠24):DP (ins x to::s) n=n::DP s (n+1):=by simp[DP,Hx,B4,ins,h]
theorem Hy(m:Int)(n:Nat)(s:List BB):DP (ins (Bq m) 0::ins (DG m) 0::s) n=n::DP s (n+2):=by simp[DP,Hx,B4,ins,Bq]
theorem Ps(pre suf:List BB)(x:B9)(to:Nat):∃y,(Bf (pre++ins x to::suf))[B3 pre]?=some y/\y.op=x.op:=by
 refine⟨_,EO pre suf x to,?_⟩
 split
 ·rfl
 ·rfl
theorem KH{rows:List BB}:∀{suf:List BB},Un suf->∀(pre:List BB) (k:Nat),rows=pre++suf->B3 suf<=k->Bn (Bf rows) k (B3 pre)=DP suf (B3 pre):=by
 intro suf h
 induction h with
 |nil=>
  intro pre k hp hk;have hlen:(Bf rows).length=B3 pre:=by unfold Bf;rw[CE,hp,List.append_nil]
  cases k with
  |zero=>rfl
  |succ k=>
   simp only[Bn];rw[List.getElem?_eq_none (by omega)];rfl
 | @lab l s _ ih=>
  intro pre k hp hk;have e:B3 (pre++ [Go.Cmp.lab (l+1)])=B3 pre:=by rw[Bk];simp[B3,B4,Go.Cmp.lab]
  have hc:B3 (Go.Cmp.lab (l+1)::s)=B3 s:=by simp[B3,B4,Go.Cmp.lab]
  have:=ih (pre++ [Go.Cmp.lab (l+1)]) k (by rw[hp];simp) (by omega);rw[e]at this;rw[HG];exact this
 | @one x s hx _ ih=>
  intro pre k hp hk;have e:B3 (pre++ [ins x 0])=B3 pre+1:=by rw[Bk];simp[B3,B4,ins]
  have hc:B3 (ins x 0::s)=B3 s+1:=by simp[B3,B4,ins]
  obtain⟨k,rfl⟩:∃k',k=k'+1:=⟨k - 1,by omega⟩;obtain⟨y,hy,hop⟩:=Ps pre s x 0;rw[←hp]at hy;have:=ih (pre++ [ins x 0]) k (by rw[hp];simp) (by omega);rw[e]at this;rw[Dp 0 _ s (J0 hx)];simp only[Bn,hy];rw[show RH y=1 by unfold RH;rw[hop,if_neg (J0 hx)],this]
 | @jump x l s hx _ ih=>
  intro pre k hp hk;have e:B3 (pre++ [ins x (l+1)])=B3 pre+1:=by rw[Bk];simp[B3,B4,ins]
  have hc:B3 (ins x (l+1)::s)=B3 s+1:=by simp[B3,B4,ins]
  obtain⟨k,rfl⟩:∃k',k=k'+1:=⟨k - 1,by omega⟩;obtain⟨y,hy,hop⟩:=Ps pre s x (l+1);rw[←hp]at hy;have:=ih (pre++ [ins x (l+1)]) k (by rw[hp];simp) (by omega);rw[e]at this;rw[Dp (l+1) _ s (Kw hx)];simp only[Bn,hy];rw[show RH y=1 by unfold RH;rw[hop,if_neg (Kw hx)],this]
 | @two n s _ ih=>
  intro pre k hp hk;have e:B3 (pre++ [ins (Bq n) 0,ins (DG n) 0])=B3 pre+2:=by rw[Bk];simp[B3,B4,ins]
  have hc:B3 (ins (Bq n) 0::ins (DG n) 0::s)=B3 s+2:=by simp[B3,B4,ins]
  obtain⟨k,rfl⟩:∃k',k=k'+1:=⟨k - 1,by omega⟩;obtain⟨y,hy,hop⟩:=Ps pre (ins (DG n) 0::s) (Bq n) 0;rw[←hp]at hy;have:=ih (pre++ [ins (Bq n) 0,ins (DG n) 0]) k (by rw[hp];simp) (by omega);rw[e]at this;rw[Hy];simp only[Bn,hy];rw[show RH y=2 by unfold RH;rw[hop];rfl,this]
variable{rows suf:List BB}
def HH(l:List BB):List Nat:=(l.filter λr=>decide (0<r.to)).map (·.to)
theorem DX(a b:List BB):HH (a++b)=HH a++HH b:=by simp[HH]
theorem F3(x:B9)(l:List BB):HH (ins x 0::l)=HH l:=by simp[HH,ins]
theorem Ia(x:B9)(n:Nat)(l:List BB):HH (ins x (n+1)::l)=(n+1)::HH l:=by simp[HH,ins]
theorem KI(n:Nat)(l:List BB):HH (lab n::l)=HH l:=by simp[HH,lab]
theorem FU:HH []= []:=rfl
theorem Mq(a o:Nat)(n:Int):HH (Cr (a+1) n (o+1))= [a+1,o+1]:=by simp[Cr,Ia,KI,FU]
theorem RI(op n:Int)(o:Nat):∀x∈HH (Di op n (o+1)),x=o+1:=by
 intro x hx
 unfold Di at hx
 split at hx<;>simp[Ia,F3,FU]at hx<;>omega
theorem RJ(t:A8)(o d:Nat):∀m k n:Nat,∀x∈HH (C6 t (o+1) (d+1) m k n),x=o+1\/x=d+1\/n<x/\x<=n+2*m
 |0,_,_,x,h=>by simp[C6,HH]at h
 |m+1,k,n,x,h=>by
  have e:C6 t (o+1) (d+1) (m+1) k n= [ins (DO 5 2 k) ((if k=15 then o else n)+1)]++Cr (n+1+1) (14+4*(k:Int)+t.pos+t.size) (o+1)++ [ins (BL t.size 2 7 (14+4*(k:Int)+t.pos)) 0,ins CC (d+1),lab (n+1)]++C6 t (o+1) (d+1) m (k+1) (n+2):=by
   by_cases hk:k=15<;>simp[C6,hk]
  rw[e]at h;simp only[DX,Mq,Ia,F3,KI,FU,List.mem_append,List.mem_cons,List.not_mem_nil,or_false]at h;rcases h with((h|h|h)|h)|h
  ·by_cases hk:k=15
   ·rw[if_pos hk]at h;omega
   ·rw[if_neg hk]at h;omega
  ·omega
  ·omega
  ·omega
  ·have:=RJ t o d m (k+1) (n+2) x h;omega
theorem JD(t:A8)(o d:Nat):∀m k n x:Nat,n<x->x<=n+2*m->x∈AL (C6 t o d m k n)
 |0,_,_,x,h1,h2=>by omega
 |m+1,k,n,x,h1,h2=>by
  simp only[C6,BO,Fv,DE,Da,List.mem_append];by_cases e1:x=n+1
  ·left;right;rw[e1];simp[AL]
  ·by_cases e2:x=n+2
   ·left;left;right;simp[e2]
   ·right;exact JD t o d m (k+1) (n+2) x (by omega) (by omega)
theorem gO(t:A8)(n:Nat):∀x∈HH (FZ t n),x=n+1\/x∈AL (FZ t n):=by
 intro x hx
 unfold FZ at hx ⊢
 by_cases h1:t.kind=1
 ·rw[if_pos h1]at hx;simp[F3,FU]at hx
 ·rw[if_neg h1]at hx ⊢;by_cases h2:t.kind=2
  ·rw[if_pos h2]at hx;simp[F3,FU]at hx
  ·rw[if_neg h2]at hx ⊢;by_cases h3:t.kind=3
   ·rw[if_pos h3]at hx ⊢;rw[DX,Mq,F3,FU]at hx;rw[BO,Fv];simp at hx ⊢;omega
   ·rw[if_neg h3]at hx ⊢;rw[DX,DX,DX,Mq,F3,F3,FU,KI,FU]at hx;rw[BO,BO,BO,Fv];simp only[List.mem_append,List.mem_cons,List.not_mem_nil,or_false]at hx ⊢;have key:n+3∈AL [lab (n+3)]:=by rw[Da];simp
    rcases hx with(hx|hx)|hx
    ·right;left;left;left;exact hx
    ·left;exact hx
    ·have:=RJ t n (n+2) 16 0 (n+4) x hx;rcases this with h|h|h
     ·left;exact h
     ·right;right;rw[h];exact key
     ·right;left;right;exact JD t (n+1) (n+3) 16 0 (n+4) x h.1 (by omega)
theorem Zg(t:A8):HH (Dm t)= []:=by
 unfold Dm
 split
 ·rw[DX];split<;>split<;>(try split)<;>simp[HH,ins]
 ·rfl
theorem X3(t:A8)(o:Nat):∀x∈HH (EU t (o+1)),x=o+1:=by
 intro x hx
 unfold EU at hx
 rw[DX]at hx
 rcases List.mem_append.1 hx with hx|hx
 ·split at hx
  ·exact RI _ _ _ x hx
  ·simp[HH]at hx
 ·split at hx
  ·exact RI _ _ _ x hx
  ·simp[HH]at hx
theorem gQ(t:A8)(n f:Nat):∀x∈HH (endS t (n+1) (n+2) (f+1)),x=n+2\/x=f+1:=by
 intro x hx
 unfold endS at hx
 split at hx<;>simp[A9,Ia,F3,KI,FU]at hx<;>omega
theorem Zh(t:A8)(f n:Nat):∀x∈HH (F0 t (f+1) n),x=f+1\/x∈AL (F0 t (f+1) n):=by
 intro x hx
 have hl:∀y,y∈AL (F0 t (f+1) n)↔y∈AL (FZ t n)\/y=n+1\/y=n+2:=λy=>by
  unfold F0;rw[BO,BO,BO,BO,Ko,JY,Mi];simp[AL,B4,A9,ins]
 rw[hl]
 unfold F0 at hx
 rw[DX,DX,DX,DX,Zg]at hx
 simp only[List.mem_append]at hx
 rcases hx with(((hx|hx)|hx)|hx)|hx
 ·simp[HH,A9,ins]at hx
 ·rcases gO t n x hx with h|h
  ·right;right;left;exact h
  ·right;left;exact h
 ·simp at hx
 ·right;right;left;exact X3 t n x hx
 ·rcases gQ t n f x hx with h|h
  ·right;right;right;exact h
  ·left;exact h
theorem Oj(f:Nat):∀(ts:List A8) (n:Nat),∀x∈HH (C2 (f+1) ts n),x=f+1\/x∈AL (C2 (f+1) ts n)
 | [],_,x,h=>by simp[C2,HH]at h
 |t::ts,n,x,h=>by
  simp only[C2,DX,BO,List.mem_append]at h ⊢;rcases h with h|h
  ·rcases Zh t f n x h with h|h
   ·left;exact h
   ·right;left;exact h
  ·rcases Oj f ts _ x h with h|h
   ·left;exact h
   ·right;right;exact h
theorem Zi(r0:BA)(n:Nat):∀x∈HH (Gz r0 n),x∈AL (Gz r0 n):=by
 intro x hx
 have e:=Kq r0 n []
 rw[List.append_nil]at e
 rw[e]at hx ⊢
 simp only[DX,BO,List.mem_append]at hx ⊢
 have key:n+1∈AL [lab (n+1)]:=by rw[Da];simp
 rcases hx with hx|hx|hx|hx|hx
 ·simp[HH,A9,ins]at hx
 ·split at hx
  ·rw[Ia,FU]at hx;right;right;right;right;rw[show x=n+1 by simpa using hx];exact key
  ·simp[HH]at hx
 ·rcases Oj n r0.tests (n+1) x hx with h|h
  ·right;right;right;right;rw[h];exact key
  ·right;right;left;exact h
 ·simp[HH,Eg,ins]at hx
 ·rw[KI]at hx;simp[HH]at hx
theorem Ok:∀(l:List BA) (n:Nat),∀x∈HH (CQ l n),x∈AL (CQ l n)
 | [],_,x,h=>by simp[CQ,HH]at h
 |r0::l,n,x,h=>by
  simp only[CQ,DX,BO,List.mem_append]at h ⊢;rcases h with h|h
  ·left;exact Zi r0 n x h
  ·right;exact Ok l _ x h
theorem X4(l:List BA):∀x∈HH (BS l),x∈AL (BS l):=by
 intro x hx
 unfold BS at hx ⊢
 simp only[DX,BO,List.mem_append]at hx ⊢
 rcases hx with((hx|hx)|hx)|hx
 ·simp[HH,ins]at hx
 ·left;left;right;exact Ok l 0 x hx
 ·simp[HH,A9,ins]at hx
 ·simp[HH,Eg,ins]at hx
theorem Ol:∀{s:List BB},Un s->0<B3 s->∀n,∃l,DP s n=n::l
 |_, .nil,h,_=>by simp[B3]at h
 |_, .lab (l:=l) (s:=s) hs,h,n=>by
  rw[HG];exact Ol hs (by simpa[B3,B4,lab]using h) n
 |_, .one (x:=y) (s:=s) hx hs,_,n=>⟨_,Dp 0 n s (J0 hx)⟩
 |_, .jump (x:=y) (l:=l) (s:=s) hx hs,_,n=>⟨_,Dp (l+1) n s (Kw hx)⟩
 |_, .two (n:=m) (s:=s) hs,_,n=>⟨_,Hy m n s⟩
end Go.Cmp
namespace Go.Cmp
open Go Go.DI
variable{rows suf:List BB}
theorem RK(l:Nat)(s:List BB):B3 (lab (l+1)::s)=B3 s:=by simp[B3,B4,lab]
theorem Ej(x:B9)(to:Nat)(s:List BB):B3 (ins x to::s)=B3 s+1:=by simp[B3,B4,ins]
theorem RL{a:List BB}(ha:Un a)(b:List BB):∀n,DP (a++b) n=DP a n++DP b (n+B3 a):=by
 induction ha with
 |nil=>intro n;simp[DP,Hx,B3]
 |lab _ ih=>intro n;rw[List.cons_append,HG,HG,ih,RK]
 | @one x s hx _ ih=>intro n;rw[List.cons_append,Dp 0 _ _ (J0 hx),Dp 0 _ _ (J0 hx),ih,Ej,List.cons_append,show n+1+B3 s=n+(B3 s+1)by omega]
 | @jump x l s hx _ ih=>intro n;rw[List.cons_append,Dp (l+1) _ _ (Kw hx),Dp (l+1) _ _ (Kw hx),ih,Ej,List.cons_append,show n+1+B3 s=n+(B3 s+1)by omega]
 | @two m s _ ih=>intro n;rw[List.cons_append,List.cons_append,Hy,Hy,ih,Ej,Ej,List.cons_append,show n+2+B3 s=n+(B3 s+1+1)by omega]
theorem TU{l:List BB}{x:Nat}(h:Un l):x∈AL l->∃a j b,x=j+1/\l=a++lab (j+1)::b/\j+1∉AL b/\Un a/\Un b:=by
 induction h with
 |nil=>intro h;simp[AL]at h
 | @lab l s hs ih=>
  intro h;by_cases hx:x∈AL s
  ·obtain⟨a,j,b,e1,e2,e3,e4,e5⟩:=ih hx;exact⟨Go.Cmp.lab (l+1)::a,j,b,e1,by rw[e2];rfl,e3, .lab e4,e5⟩
  ·rw[Da]at h
   have e:x=l+1:=by
    rcases List.mem_cons.1 h with h|h
    ·exact h
    ·exact absurd h hx
   exact⟨[],l,s,e,rfl,by rw[←e];exact hx, .nil,hs⟩
 | @one y s hy hs ih=>
  intro h;rw[DE]at h;obtain⟨a,j,b,e1,e2,e3,e4,e5⟩:=ih h;exact⟨ins y 0::a,j,b,e1,by rw[e2];rfl,e3, .one hy e4,e5⟩
 | @jump y l s hy hs ih=>
  intro h;rw[DE]at h;obtain⟨a,j,b,e1,e2,e3,e4,e5⟩:=ih h;exact⟨ins y (l+1)::a,j,b,e1,by rw[e2];rfl,e3, .jump hy e4,e5⟩
 | @two n s hs ih=>
  intro h;rw[DE,DE]at h;obtain⟨a,j,b,e1,e2,e3,e4,e5⟩:=ih h;exact⟨ins (Bq n) 0::ins (DG n) 0::a,j,b,e1,by rw[e2];rfl,e3, .two e4,e5⟩
theorem RM:∀{l:List BB},B3 l=0->∀x∈l,B4 x=true
 | [],_,x,h=>by simp at h
 |r::l,h,x,hx=>by
  simp only[B3]at h;by_cases hr:B4 r=true
  ·rw[if_pos hr]at h;rcases List.mem_cons.1 hx with rfl|hx
   ·exact hr
   ·exact RM h x hx
  ·rw[if_neg hr]at h;omega
def Found(c:List B9)(p:Nat):Prop:=
 (∃x,Y4 x/\c[p]?=some x)\/(∃x o,∃q∈A5 c,na x/\c[p]?=some (BJ x o)/\ -32768<=o/\o<=32767/\(q:Int)=(p:Int)+1+o)\/(∃n,c[p]?=some (Bq n)/\c[p+1]?=some (DG n))
theorem RN{l:List BA}(hW:∀x∈l,KB x)(hbd:B3 (BS l)<=20000):∀p∈A5 (Bf (BS l)),Found (Bf (BS l)) p:=by
 have hU:=RG hW
 have hT:=X4 l
 have hlast:∃R,BS l=R++ [ins DS 0]:=⟨[ins (Bj 11 6 1) 0,ins (BL 8 7 1 8) 0]++CQ l 0++A9++ [ins (HC (Kg 0)) 0],by simp[BS,Eg]⟩
 obtain⟨rows,hr⟩:∃rows,BS l=rows:=⟨_,rfl⟩
 rw[hr]at hU hT hlast hbd ⊢
 obtain⟨R,hR⟩:=hlast
 have hst:A5 (Bf rows)=DP rows 0:=by
  unfold A5;have:=KH (rows:=rows) hU [] (Bf rows).length rfl (by unfold Bf;rw[CE];exact Nat.le_refl _);exact this
 have key:∀{suf:List BB},Un suf->∀pre,rows=pre++suf->∀p∈DP suf (B3 pre),Found (Bf rows) p:=by
  intro suf h;induction h with
  |nil=>intro pre _ p hp;simp[DP,Hx]at hp
  | @lab j s _ ih=>
   intro pre hp p hm;rw[HG]at hm;have e:B3 (pre++ [Go.Cmp.lab (j+1)])=B3 pre:=by rw[Bk,RK];rfl
   exact ih (pre++ [Go.Cmp.lab (j+1)]) (by rw[hp];simp) p (by rw[e];exact hm)
  | @one x s hx _ ih=>
   intro pre hp p hm;rw[Dp 0 _ _ (J0 hx)]at hm;have e:B3 (pre++ [ins x 0])=B3 pre+1:=by rw[Bk,Ej];rfl
   rcases List.mem_cons.1 hm with rfl|hm
   ·have hm:=EO pre s x 0;rw[if_neg (Nat.lt_irrefl 0),←hp]at hm;exact .inl ⟨x,hx,hm⟩
   ·exact ih (pre++ [ins x 0]) (by rw[hp];simp) p (by rw[e];exact hm)
  | @jump x j s hx _ ih=>
   intro pre hp p hm;rw[Dp (j+1) _ _ (Kw hx)]at hm;have e:B3 (pre++ [ins x (j+1)])=B3 pre+1:=by rw[Bk,Ej];rfl
   rcases List.mem_cons.1 hm with rfl|hm
   ·have hm:=EO pre s x (j+1);rw[if_pos (Nat.succ_pos j),←hp]at hm;have hto:j+1∈HH rows:=by rw[hp,DX,Ia];simp
    obtain⟨a,j',b,e1,e2,e3,e4,e5⟩:=TU hU (hT _ hto);obtain rfl:j=j':=by omega
    have hat:Jy rows (j+1)=B3 a:=by rw[e2];exact Yy _ _ _ e3
    have hb:0<B3 b:=by
     refine Nat.pos_of_ne_zero λh0=>?_
     have hall:∀y∈Go.Cmp.lab (j+1)::b,B4 y=true:=λy hy=>by
      rcases List.mem_cons.1 hy with rfl|hy
      ·simp[B4,Go.Cmp.lab]
      ·exact RM h0 y hy
     have h1:rows.getLast?=some (ins DS 0):=by rw[hR];simp
     rw[e2,List.getLast?_append]at h1;obtain⟨z,hz⟩:∃z,(Go.Cmp.lab (j+1)::b).getLast?=some z:=⟨_,List.getLast?_eq_some_getLast (by simp)⟩;rw[hz]at h1;have hz2:z=ins DS 0:=by simpa using h1
     have:=hall z (List.mem_of_getLast? hz);rw[hz2]at this;simp[B4,ins]at this
    obtain⟨l',hl'⟩:=Ol e5 hb (B3 a)
    have hq:B3 a∈A5 (Bf rows):=by
     rw[hst,e2,RL e4,HG,Nat.zero_add,hl'];simp
    have hcr:B3 a<=B3 rows:=by rw[e2,Bk];omega
    have hcp:B3 pre<=B3 rows:=by rw[hp,Bk];omega
    have hw:Gy ((B3 a:Int) - (B3 pre:Nat) - 1)=(B3 a:Int) - (B3 pre:Nat) - 1:=IntWalk.i16_in _ (by omega);rw[hat,ef,hw]at hm;exact .inr (.inl ⟨x,_,B3 a,hq,hx,hm,by omega,by omega,by omega⟩)
   ·exact ih (pre++ [ins x (j+1)]) (by rw[hp];simp) p (by rw[e];exact hm)
  | @two n s _ ih=>
   intro pre hp p hm;rw[Hy]at hm;have e:B3 (pre++ [ins (Bq n) 0,ins (DG n) 0])=B3 pre+2:=by rw[Bk,Ej,Ej];rfl
   rcases List.mem_cons.1 hm with rfl|hm
   ·have a1:=EO pre (ins (DG n) 0::s) (Bq n) 0;have a2:=EO (pre++ [ins (Bq n) 0]) s (DG n) 0;have e0:pre++ [ins (Bq n) 0]++ins (DG n) 0::s=rows:=by rw[hp];simp
    have e1:B3 (pre++ [ins (Bq n) 0])=B3 pre+1:=by rw[Bk,Ej];rfl
    rw[if_neg (Nat.lt_irrefl 0),←hp]at a1;rw[if_neg (Nat.lt_irrefl 0),e0,e1]at a2;exact .inr (.inr ⟨n,a1,a2⟩)
   ·exact ih (pre++ [ins (Bq n) 0,ins (DG n) 0]) (by rw[hp];simp) p (by rw[e];exact hm)
 intro p hp
 rw[hst]at hp
 exact key hU [] rfl p hp
theorem TV{l:List BA}(hW:∀x∈l,KB x):∃init p,A5 (Bf (BS l))=init++ [p]/\(Bf (BS l))[p]?=some DS:=by
 have hU:=RG hW
 obtain⟨R,hR⟩:∃R,R= [ins (Bj 11 6 1) 0,ins (BL 8 7 1 8) 0]++CQ l 0++A9:=⟨_,rfl⟩
 have hUR:Un R:=by
  rw[hR];exact(Un.append (.one (.movR (rg 6 (by decide) (by decide)) (rg 1 (by decide) (by decide))) (.one (.load (.inr (.inr (.inr rfl))) (rg 7 (by decide) (by decide)) (rg 1 (by decide) (by decide))) .nil)) (Mp l 0 hW)).append Fx
 have e:BS l=R++ [ins (HC (Kg 0)) 0]++ [ins DS 0]:=by rw[hR];simp[BS,Eg]
 have hU1:Un (R++ [ins (HC (Kg 0)) 0]):=hUR.append (.one .low .nil)
 have hst:A5 (Bf (BS l))=DP (BS l) 0:=by
  unfold A5;exact KH (rows:=BS l) hU [] (Bf (BS l)).length rfl (by unfold Bf;rw[CE];exact Nat.le_refl _)
 refine⟨DP (R++ [ins (HC (Kg 0)) 0]) 0,B3 (R++ [ins (HC (Kg 0)) 0]),?_,?_⟩
 ·rw[hst,e,RL hU1,Nat.zero_add,Dp 0 _ _ (J0 .exit)];simp[DP,Hx]
 ·have:=EO (R++ [ins (HC (Kg 0)) 0]) [] DS 0;rw[if_neg (Nat.lt_irrefl 0),←e]at this;exact this
end Go.Cmp
namespace Go.Proofs.YtgjflcgmieiafaaGreatDoor
open Go Go.DI Go.DI.Kit Go.Proofs Go.Cmp
noncomputable section
structure DY(l:List B9):Prop where
 pos:l≠ []
 most:l.length<=512
 found:∀p∈A5 l,Go.Cmp.Found l p
 last:∃init p,A5 l=init++ [p]/\l[p]?=some DS
def A6(b:Nat)(n:Nat):Value:= .slice (some ⟨b,0,some 5⟩) n n
def Es(v:Value):Value:= .agg ⟨[.slice none 0 0,v]⟩
def UI(port:Int):Value:= .agg ⟨[.int .u32 port, .slice none 0 0, .slice none 0 0]⟩
def jP(args:List Value)(x:BI):Prop:=match args with
 | [.agg ⟨[.slice none 0 0, .slice (some ⟨_,0,some 5⟩) n n']⟩]=>∃own l,x= .cells own (AE l)/\n=l.length/\n'=l.length/\DY l
 |_=>False
def yU(a:List Value):Option Nat:=match a with
 | [.agg ⟨[.slice none 0 0, .slice (some ⟨b,0,some 5⟩) _ _]⟩]=>some b
 |_=>none
def sY(f:FuncId)(args:List Value)(x:BI)(v:Value):Prop:=f=45/\v= .tuple ⟨[.int .i64 0, .int .i64 0]⟩/\yU args=some 1/\jP args x
def uc(i:Nat):Value:= .slice (some ⟨i,0,none⟩) 0 0
def yh(p c k t mm tm ch:Nat)(n np:Nat)(sp:Option Nat)(port:Int):BI:=
 .cells true (sP (uc mm) (A6 c n) (uc t) (.slice (some ⟨k,0,sp⟩) np np) (uc tm) (uc ch) port (AO Dn) 0 0 false 0)
def yG(p:Nat):Value:= .tuple ⟨[.pointer (some ⟨p,0,none⟩), .int .i64 0]⟩
open Classical in
def di:C1:=λf a M=>if f=45/\∃b,yU a=some b/\jP a (M.get b)/\Fits gl [b] [M.get b] M then some (.tuple ⟨[.int .i64 0, .int .i64 0]⟩,M)else none
theorem iX{f:FuncId}(h:f≠45)(a:List Value)(M:Mem):di f a M=none:=if_neg λg=>h g.1
theorem jQ{a:List Value}{x:BI}(h:jP a x):∃b own l,a= [Es (A6 b l.length)]/\x= .cells own (AE l)/\DY l:=by
 unfold jP at h
 split at h
 ·obtain⟨own,l,h1,rfl,rfl,h2⟩:=h;exact⟨_,own,l,rfl,h1,h2⟩
 ·cases h
def E3:Prop:=∀(B0:Nat) (b:Nat) (own:Bool) (l:List B9) (M:Mem),M.get b= .cells own (AE l)->DY l->Fits gl [b] [M.get b] M->EI Tryz.prog B0 1 45 [Es (A6 b l.length)] M (.tuple ⟨[.int .i64 0, .int .i64 0]⟩) M
theorem bT(hW:E3)(B0:Nat):CR Tryz.prog B0 1 di:=by
 refine⟨λf a M v M' h=>?_,λf a M v M' h=>?_,λf a M v M' h=>?_⟩
 all_goals
  unfold di at h;split at h
  case isFalse=>cases h
  rename_i hc;obtain⟨rfl,b,h1,h2,hF⟩:=hc;simp only[Option.some.injEq,Prod.mk.injEq]at h;obtain⟨rfl,rfl⟩:=h
 ·exact Nat.le_refl _
 ·obtain⟨b',own,l,rfl,h3,h4⟩:=jQ h2;have h1:some b'=some b:=h1;cases h1;exact hW B0 b own l _ h3 h4 hF
 ·exact hasB (by kernel_rfl)
theorem iY:B5 di:=λf a M v M' h=>by
 unfold di at h
 split at h
 case isFalse=>cases h
 simp only[Option.some.injEq,Prod.mk.injEq]at h
 obtain⟨rfl,rfl⟩:=h
 exact EL.refl _
section
variable{M:Mem}{K:CH}{c k:Nat}{l:List B9}{pk:List Int}{port:Int}{o1 o2:Bool}
theorem Js(hne:pk≠ [])(hl:pk.length<=65535):H.apOk (.cells o2 (AN pk)) 0 1 1 pk.length (AN pk):=by
 have hp:0<pk.length:=List.length_pos_iff.2 hne
 refine⟨hp,by omega,by omega,?_,?_,by rw[Hb];omega⟩
 ·show(if 0+pk.length*1<=(AN pk).length then some (((AN pk).drop 0).take (pk.length*1))else none)=_;rw[if_pos (by rw[Hb];omega),List.drop_zero,List.take_of_length_le (by rw[Hb];omega)]
 ·unfold AN;rw[List.all_map,List.all_eq_true];intro x _;rfl
theorem Jt(l:List B9):(AE l).length=l.length*5:=Dd GF l
theorem L3(hne:l≠ [])(hl:l.length<=512):H.apOk (.cells o1 (AE l)) 0 5 12 l.length (AE l):=by
 have hp:0<l.length:=List.length_pos_iff.2 hne
 refine⟨hp,by omega,by omega,?_,?_,Jt l⟩
 ·show(if 0+l.length*5<=(AE l).length then some (((AE l).drop 0).take (l.length*5))else none)=_;rw[if_pos (by rw[Jt];omega),List.drop_zero,List.take_of_length_le (by rw[Jt];omega)]
 ·unfold AE;rw[List.all_flatMap,List.all_eq_true];intro x _;rfl
theorem tP(hM:M.top)(h0:M.get 0= .cells false gl)(h1:1<=M.size)(hc:c<M.size)(hk:k<M.size)(hc0:c≠0)(hk0:k≠0)(hck:c≠k)(gc:M.get c= .cells o1 (AE l))(gk:M.get k= .cells o2 (AN pk)):Fits gl [c,k] [M.get c,M.get k] M:=by
 refine⟨hM,h0,h1,rfl,λb hb=>?_,?_,?_,λi b s hi hs=>?_,λs hs=>?_⟩
 ·simp only[List.mem_cons,List.not_mem_nil,or_false]at hb;rcases hb with rfl|rfl<;>assumption
 ·simp only[List.mem_cons,List.not_mem_nil,or_false,not_or];exact⟨λh=>hc0 h.symm,λh=>hk0 h.symm⟩
 ·simp[hck]
 ·rcases i with _|_|i
  ·cases hi;cases hs;rw[gc];show _=BI.cells o1 _;rw[CZ (BR l)]
  ·cases hi;cases hs;rw[gk];show _=BI.cells o2 _;rw[CZ (DN pk)]
  ·cases hi
 ·have hpl:∀(o:Bool) (c:List Value),c.all Dw=true->okB (.cells o c)/\seenB (1+2) (.cells o c):=λo c h=>⟨λv hv=>F9 (List.all_eq_true.1 h v hv),λv hv=>Dv (List.all_eq_true.1 h v hv)⟩;simp only[List.mem_cons,List.not_mem_nil,or_false]at hs;rcases hs with rfl|rfl
  ·rw[gc];exact hpl _ _ (BR l)
  ·rw[gk];exact hpl _ _ (DN pk)
theorem WG(hM:M.top)(h0:M.get 0= .cells false gl)(h1:1<=M.size)(hc:c<M.size)(hc0:c≠0)(gc:M.get c= .cells o1 (AE l)):Fits gl [c] [M.get c] M:=by
 refine⟨hM,h0,h1,rfl,λb hb=>?_,?_,?_,λi b s hi hs=>?_,λs hs=>?_⟩
 ·obtain rfl:=List.mem_singleton.1 hb;exact hc
 ·simp only[List.mem_cons,List.not_mem_nil,or_false];exact λh=>hc0 h.symm
 ·simp
 ·rcases i with _|i
  ·cases hi;cases hs;rw[gc];show _=BI.cells o1 _;rw[CZ (BR l)]
  ·cases hi
 ·obtain rfl:=List.mem_singleton.1 hs;rw[gc];exact⟨λv hv=>F9 (List.all_eq_true.1 (BR l) v hv),λv hv=>Dv (List.all_eq_true.1 (BR l) v hv)⟩
end
end
end Go.Proofs.YtgjflcgmieiafaaGreatDoor
namespace Go.Proofs.YtgjflcgmieiafaaGreatDoor
open Go Go.DI Go.DI.Kit Go.Proofs Go.Cmp
noncomputable section
noncomputable def S3:Code:=AM Tryz.f15
theorem wm:Tryz.prog.funcs[15]?=some Tryz.f15:=by kernel_rfl
theorem wq:Tryz.f15.body=some S3:=by kernel_rfl
theorem wu:Tryz.f15.ntmps=84:=by kernel_rfl
noncomputable def never:List Value->Mem->Value->Prop:=λ_ _ _=>False
noncomputable def hA(L:List Value)(P:Option (List Value)):H.Hint where
 ix _:=false
 ld _ _ _:=none
 cmp op t:=cond (Nat.beq t 3) (BinOp.rec (motive:=λ_=>Option Bool) none none none none none none none none none none none none none none none (some false) none op) none
 ap t:=cond (Nat.beq t 30) (some L) (cond (Nat.beq t 23) P none)
 call f:=cond (Nat.beq f 45) (some (.tuple ⟨[.int .i64 0, .int .i64 0]⟩)) (cond (Nat.beq f 28) (some (.bool true)) none)
 spec:=sY
 blk:=1
 specM f:=cond (Nat.beq f 28) (some never) (some λargs m v=>di f args m=some (v,m))
noncomputable def bO(L:List Value)(P:Option (List Value))(args:List Value)(M:Mem):Option (H.TT (Ex×AF×Mem)):=
 H.codeT (hA L P) (DM ((items S3).take 6)) Tryz.prog kp 1 (H.callT (hA L P) Tryz.prog kp 1 20) (λbody _ k t m q=>Y.loopF body k t m q) 84 600 (AB 84 (Bv args)) M λe t m=>some ((e,t,m),[],[])
noncomputable def iW:List Value:= [.int .i64 0, .int .i64 0, .int .u64 0, .int .i64 0, .slice none 0 0]
noncomputable def qu(zi p:Nat)(img pv wld:Value):List (Nat×Value):= [(4, .int .i64 512),(5, .pointer (some ⟨zi,0,none⟩)),(8, .pointer (some ⟨zi+1,0,none⟩)),(10, .pointer (some ⟨zi+2,0,none⟩)),(11, .int .i64 0),(12, .pointer (some ⟨p,0,none⟩)),(13, .int .i64 0),(15,yG p),(16,img),(17, .slice none 0 0),(18,pv),(19,wld),(20,yG p),(21, .pointer (some ⟨p,0,none⟩)),(22, .int .i64 0),(23, .int .i64 0),(24, .bool false),
 (27, .int .i64 512),(28, .bool false),(29, .bool false),(30, .int .i64 512),(31, .bool false),(32, .bool false)]
noncomputable def IU(v:Value):List Value:= [.slice none 0 0,v]
noncomputable def MD(port:Int):List Value:= [.int .u32 port, .slice none 0 0, .slice none 0 0]
noncomputable def Fk(n:Nat)(pv:Value)(port:Int):List Value:= [Es (A6 1 n), .slice none 0 0,pv,UI port, .int .i64 512]
noncomputable def OV(o1 o2:Bool)(L P:List Value)(n:Nat):List BI:= [.cells o1 L, .cells o2 P, .cells true (IU (A6 1 n)),GR, .cells true P]
noncomputable def OW(o1 o2:Bool)(L:List Value)(n:Nat):List BI:= [.cells o1 L, .cells o2 [], .cells true (IU (A6 1 n)),GR]
noncomputable def OX(o1:Bool)(L:List Value)(n:Nat):List BI:= [.cells o1 L, .cells true (IU (A6 1 n)),GR]
noncomputable def o6(L P:List Value)(n np:Nat)(port:Int)(z:Nat)(regs:List Value)(at_ st:Int)(over:Bool):List BI:= [.cells true (IU (A6 1 n)), .cells true (MD port), .cells true iW,
 .cells true (IU (A6 1 n)), .cells true (MD port),GR,GR, .cells true P,FO (z+9) (z+11) (z+5) (z+7) (z+12) (z+13) n np (some 1) port regs at_ st over,GR,GR, .cells true L,GR,GR]
noncomputable def YE(L:List Value)(n:Nat)(port:Int)(z:Nat)(regs:List Value)(at_ st:Int)(over:Bool):List BI:= [.cells true (IU (A6 1 n)), .cells true (MD port), .cells true iW,
 .cells true (IU (A6 1 n)), .cells true (MD port),GR,GR,FO (z+8) (z+10) (z+5) (z+6) (z+11) (z+12) n 0 none port regs at_ st over,GR,GR, .cells true L,GR,GR]
noncomputable def wx{A:Type}(r:Option (H.TT A)):Option (A×List Prop):=r.map λx=>(x.1,x.2.2)
abbrev yH{A:Type}(r:Option (H.TT A)):Prop:=(r.map λx=>x.2.1.map Prod.fst)=(r.map λx=>x.2.1.map Prod.snd)
abbrev Rn{A:Type}(r:Option (H.TT A))(y:A×List Prop):Prop:=wx r=some y/\(r.map λx=>x.2.1.map Prod.fst)=(r.map λx=>x.2.1.map Prod.snd)
noncomputable def bP:Prop:=B6 Tryz.prog kp .gtr 3 (.int .i64 512) (.int .i64 1048576)=some (.bool false)
noncomputable def sZ(n:Nat):Prop:=B6 Tryz.prog kp .gtr 3 (.int .i64 (Int.ofNat n)) (.int .i64 65535)=some (.bool false)
noncomputable def s3(n:Nat)(port:Int)(ss:List BI):Prop:=di 45 [Es (A6 1 n)] (mS gl (ss++ [.cells true (IU (A6 1 n)), .cells true (MD port), .cells true iW, .cells true (IU (A6 1 n)), .cells true (MD port)]))=some (.tuple ⟨[.int .i64 0, .int .i64 0]⟩,mS gl (ss++ [.cells true (IU (A6 1 n)), .cells true (MD port), .cells true iW, .cells true (IU (A6 1 n)), .cells true (MD port)]))
noncomputable def Gp(b n:Nat)(sp:Option Nat):Value:= .slice (some ⟨b,0,sp⟩) n n
theorem o7(o1 o2:Bool)(L P:List Value)(n np:Nat)(port:Int):
  Rn (bO L (some P) (Fk n (Gp 5 np (some 1)) port) (mS gl (OV o1 o2 L P n))) ((.normal,AB 84 (up (Bv (Fk n (Gp 5 np (some 1)) port)) (qu 6 14 (Es (A6 1 n)) (Gp 5 np (some 1)) (UI port))),mS gl (OV o1 o2 L P n++o6 L P n np port 6 (AO Dn) 0 0 false)),
    [s3 n port (OV o1 o2 L P n),sZ np,H.apOk (.cells true P) 0 1 1 np P,H.apOk (.cells o1 L) 0 5 12 n L,bP]):=⟨by kernel_rfl,by kernel_rfl⟩
theorem oc(o1 o2:Bool)(L:List Value)(n:Nat)(port:Int):
  Rn (bO L none (Fk n (Gp 4 0 none) port) (mS gl (OW o1 o2 L n))) ((.normal,AB 84 (up (Bv (Fk n (Gp 4 0 none) port)) (qu 5 12 (Es (A6 1 n)) (Gp 4 0 none) (UI port))),mS gl (OW o1 o2 L n++YE L n port 5 (AO Dn) 0 0 false)),
    [s3 n port (OW o1 o2 L n),sZ 0,H.apOk (.cells o1 L) 0 5 12 n L,bP]):=⟨by kernel_rfl,by kernel_rfl⟩
theorem od(o1:Bool)(L:List Value)(n:Nat)(port:Int):
  Rn (bO L none (Fk n (Gp 3 0 none) port) (mS gl (OX o1 L n))) ((.normal,AB 84 (up (Bv (Fk n (Gp 3 0 none) port)) (qu 4 11 (Es (A6 1 n)) (Gp 3 0 none) (UI port))),mS gl (OX o1 L n++YE L n port 4 (AO Dn) 0 0 false)),
    [s3 n port (OX o1 L n),sZ 0,H.apOk (.cells o1 L) 0 5 12 n L,bP]):=⟨by kernel_rfl,by kernel_rfl⟩
noncomputable def yL(gt:Bool)(o' c':Nat)(sp:Option Nat)(z:Nat)(B:Nat->Int):H.Hint where
 ix _:=false
 ld _ t off:=cond (Nat.beq t 5) (some (.int .u8 (B off))) none
 cmp op t:=cond (Nat.beq t 3) (BinOp.rec (motive:=λ_=>Option Bool) none none none none none none none none none none none none none none none (some gt) none op) none
 ap _:=none
 call _:=none
 spec _ _ _ _:=False
 blk:=0
 sl t:=cond (Nat.beq t 23) (some (.slice (some ⟨1,o',sp⟩) z c')) none
noncomputable def sh8(r:Int):Int:=IntKind.wrap .u64 (r*2 ^ (min (8:Int).toNat (IntKind.bits .u64)))
noncomputable def xS(a b:Int):Int:=IntKind.wrap .u64 ((BitVec.ofInt (IntKind.bits .u64) a|||BitVec.ofInt (IntKind.bits .u64) b).toNat:Nat)
noncomputable def yi(l:List Int):Int:=l.foldl (λr b=>xS (sh8 r) (IntKind.wrap .u64 b)) 0
noncomputable def yj(gt:Bool)(o' c':Nat)(sp:Option Nat)(z:Nat)(B:Nat->Int)(own:Bool)(P:List Value)(pv:Value)(off:Int):Option (H.TT (Value×BI×BI)):=
 H.callT (yL gt o' c' sp z B) Tryz.prog kp 1 20 63 [pv, .int .i64 off, .int .i64 (Int.ofNat z)] (mS gl [.cells own P]) λv m=>some ((v,m.get 0,m.get 1),[],[])
noncomputable def u5(np cap:Nat)(sp:Option Nat):Value:= .slice (some ⟨1,0,sp⟩) np cap
noncomputable def gtN(off:Int)(z np:Nat)(b:Bool):Prop:=B6 Tryz.prog kp .gtr 3 (.int .i64 (IntKind.wrap .i64 (Int.add off (Int.ofNat z)))) (.int .i64 (Int.ofNat np))=some (.bool b)
noncomputable def slN(off:Int)(z np cap:Nat)(sp:Option Nat)(o' c':Nat):Prop:=LB Tryz.prog 23 (u5 np cap sp) (some (.int .i64 off)) (some (.int .i64 (IntKind.wrap .i64 (Int.add off (Int.ofNat z))))) none=some (.slice (some ⟨1,o',sp⟩) z c')
noncomputable def ldN(P:List Value)(o' i:Nat)(B:Nat->Int):Prop:=H.ldOk (.cells true P) (Nat.add o' (Nat.mul i 1)) false 1 (.int .u8 (B (Nat.add o' (Nat.mul i 1))))
noncomputable def bN(o':Nat)(B:Nat->Int)(i:Nat):Int:=B (Nat.add o' (Nat.mul i 1))
end
end Go.Proofs.YtgjflcgmieiafaaGreatDoor
namespace Go.DI
namespace Kit
noncomputable section
def GM:Value->Bool
 | .int _ _=>true
 | .bool _=>true
 |_=>false
def Nd:Value->Bool
 | .int _ _=>true
 | .bool _=>true
 | .agg ⟨l⟩=>l.all GM
 |_=>false
def LM:Value->Bool
 | .int _ _=>true
 | .bool _=>true
 | .agg ⟨l⟩=>l.all GM
 | .tuple ⟨l⟩=>l.all Nd
 |_=>false
theorem Rx{v:Value}(h:GM v=true):Free v:=by cases v<;>simp[GM]at h<;>first|exact Cn _ _|exact De _
theorem GA{l:List Value}(h:l.all GM=true):Free (.agg ⟨l⟩):=λι κ v' g=>by
 cases g with
 |agg _ a' hs hr=>
  refine .agg _ _ hs λi x y hx hy=>Rx (List.all_eq_true.1 h x ?_) ι κ y (hr i x y hx hy);exact Array.mem_toList_iff.2 (Array.mem_of_getElem? hx)
theorem Ry{v:Value}(h:Nd v=true):Free v:=by
 cases v<;>simp only[Nd]at h<;>try (cases h;done)
 ·exact De _
 ·exact Cn _ _
 ·exact GA h
theorem Rz{v:Value}(h:LM v=true):Free v:=by
 cases v<;>simp only[LM]at h<;>try (cases h;done)
 ·exact De _
 ·exact Cn _ _
 ·exact GA h
 ·exact FD λx hx=>Ry (List.all_eq_true.1 h x hx)
section
variable{P:Program}{gl:List Value}
open Classical in
def G9(gl:List Value)(F:FuncId)(R:FuncId->List Value->Mem->Option (Value×Mem))(op:List Value->Option (List Value×List Nat)):C1:=λf a M=>if f=F then(match op a with
 |some (sa,bs)=>if Fits gl bs (bs.map M.get) M/\HO (DV bs M) (λi=>Nat.blt i (1+bs.length)) sa a then
   (match R F sa (mS gl (bs.map M.get))with
    |some (v,m)=>if LM v=true/\m.get 0= .cells false gl/\∀i s,(bs.map M.get)[i]?=some s->m.get (i+1)=s then some (v,M)else none
    |none=>none)else none
 |none=>none)else none
variable{F:FuncId}{R:FuncId->List Value->Mem->Option (Value×Mem)}{op:List Value->Option (List Value×List Nat)}
theorem FJ{f:FuncId}(h:f≠F)(a:List Value)(M:Mem):G9 gl F R op f a M=none:=if_neg h
theorem Jd(hgl:∀x∈gl,Free x){B0:Nat}(hR:CR P B0 1 R)(hRg:B5 R){f:FuncId}{a:List Value}{M M':Mem}{v:Value}(h:G9 gl F R op f a M=some (v,M')):f=F/\EI P B0 1 f a M v M'/\EL M M'/\∃sa m m',R F sa m=some (v,m'):=by
 unfold G9 at h
 split at h
 case isFalse=>cases h
 rename_i e
 subst e
 split at h
 case h_2=>cases h
 rename_i sa bs hop
 split at h
 case isFalse=>cases h
 rename_i hF
 split at h
 case h_2=>cases h
 rename_i v0 m hr
 split at h
 case isFalse=>cases h
 rename_i hk
 simp only[Option.some.injEq,Prod.mk.injEq]at h
 obtain⟨rfl,rfl⟩:=h
 obtain⟨h1,h2⟩:=NP hgl hR hRg hF.1 hr hF.2 ((Rz hk.1).embA _ _) hk.2.1 hk.2.2
 exact⟨rfl,h1,h2,sa,_,m,hr⟩
theorem E9(hgl:∀x∈gl,Free x)(hR:∀B0,CR P B0 1 R)(hRg:B5 R):B5 (G9 gl F R op):=λf a M v M' h=>(Jd hgl (hR 0) hRg h).2.2.1
theorem GN(hgl:∀x∈gl,Free x)(hR:∀B0,CR P B0 1 R)(hRg:B5 R)(B0:Nat):CR P B0 1 (G9 gl F R op):=
 ⟨λf a M v M' h=>(E9 hgl hR hRg f a M v M' h).size,λf a M v M' h=>(Jd hgl (hR B0) hRg h).2.1,λf a M v M' h=>by
  obtain⟨rfl,_,_,sa,m,m',hr⟩:=Jd hgl (hR B0) hRg h;exact(hR B0).body _ _ _ _ _ hr⟩
theorem IP{a sa:List Value}{bs:List Nat}{M m:Mem}{v:Value}(hop:op a=some (sa,bs))(hF:Fits gl bs (bs.map M.get) M)(hs:HO (DV bs M) (λi=>Nat.blt i (1+bs.length)) sa a)
  (hr:R F sa (mS gl (bs.map M.get))=some (v,m)) (hv:LM v=true) (h0:m.get 0= .cells false gl) (hm:∀i s,(bs.map M.get)[i]?=some s->m.get (i+1)=s):G9 gl F R op F a M=some (v,M):=by
 unfold G9
 rw[if_pos rfl,hop]
 simp only
 rw[if_pos ⟨hF,hs⟩,hr]
 exact if_pos ⟨hv,h0,hm⟩
def MA(o o':C1):C1:=λf a M=>match o f a M with
 |some r=>some r
 |none=>o' f a M
theorem KU{o o':C1}(h:B5 o)(h':B5 o'):B5 (MA o o'):=λf a M v M' g=>by
 unfold MA at g
 cases hq:o f a M with
 |some r=>rw[hq]at g;cases g;exact h _ _ _ _ _ hq
 |none=>rw[hq]at g;exact h' _ _ _ _ _ g
theorem MQ{o o':C1}{B0:Nat}(h:CR P B0 1 o)(h':CR P B0 1 o'):CR P B0 1 (MA o o'):=by
 refine⟨λf a M v M' g=>?_,λf a M v M' g=>?_,λf a M v M' g=>?_⟩
 all_goals
  unfold MA at g;cases hq:o f a M with
  |some r=>rw[hq]at g;cases g;first|exact h.size _ _ _ _ _ hq|exact h.ok _ _ _ _ _ hq|exact h.body _ _ _ _ _ hq
  |none=>rw[hq]at g;first|exact h'.size _ _ _ _ _ g|exact h'.ok _ _ _ _ _ g|exact h'.body _ _ _ _ _ g
theorem QT{o o':C1}{f:FuncId}{a:List Value}{M:Mem}{r:Value×Mem}(h:o f a M=some r):MA o o' f a M=some r:=by unfold MA;rw[h]
theorem Je{o o':C1}{f:FuncId}{a:List Value}{M:Mem}(h:o f a M=none):MA o o' f a M=o' f a M:=by unfold MA;rw[h]
def Hi:C1:=λ_ _ _=>none
theorem SA(B0:Nat):CR P B0 1 Hi:=⟨λ_ _ _ _ _ h=>(by cases h),λ_ _ _ _ _ h=>(by cases h),λ_ _ _ _ _ h=>(by cases h)⟩
theorem Iw:B5 Hi:=λ_ _ _ _ _ h=>by cases h
end
end
end Kit
end Go.DI
namespace Go.Proofs.YtgjflcgmieiafaaGreatDoor
open Go Go.DI Go.DI.Kit Go.Proofs Go.Cmp
noncomputable section
noncomputable def Bl(x:Int):Prop:=B6 Tryz.prog kp .gtr 5 (.int .u8 x) (.int .u8 10)=some (.bool false)
noncomputable def D6(x:Int):Prop:=B6 Tryz.prog kp .eql 5 (.int .u8 x) (.int .u8 10)=some (.bool false)
noncomputable def hO(x y:List Value):H.Hint where
 ix t:=Nat.beq t 30
 ld _ _ _:=none
 cmp op t:=cond (Nat.beq t 5) (BinOp.rec (motive:=λ_=>Option Bool) none none none none none none none none none none none none none none none (some false) none op) none
 ap _:=none
 call _:=none
 spec _ _ _ _:=False
 blk:=0
 cmpY op t v:=cond (Nat.beq t 5) (BinOp.rec (motive:=λ_=>Option Bool) none none none none none none none none none none none (match v with| .int _ n=>cond (Nat.beq n.toNat 10) (some false) none|_=>none) none none none none none op) none
 ldA a t:=cond (Nat.beq t 110) (match a with| .tmp 13=>some (.agg ⟨x⟩)| .tmp 40=>some (.agg ⟨y⟩)|_=>none) none
 cmpO op t a:=cond (Nat.beq t 3) (BinOp.rec (motive:=λ_=>Option Bool) none none none none none none none none none none none (match a with| .tmp 33=>some false|_=>none) none none none none none op) none
noncomputable def Gt(f:FuncId)(x:List Value):Option (H.TT (Value×BI)):=H.callT (hO [] []) Tryz.prog kp 1 20 f [.agg ⟨x⟩] (mS gl []) λv m=>some ((v,m.get 0),[],[])
noncomputable def OL(own:Bool)(L x y:List Value)(k:Nat)(p:Int):Option (H.TT (Value×BI×BI)):=H.callT (hO x y) Tryz.prog kp 1 20 68 [Es (A6 1 k), .int .i64 p] (mS gl [.cells own L]) λv m=>some ((v,m.get 0,m.get 1),[],[])
noncomputable def IV(p:Int)(k:Nat):Prop:=0<=p/\p< (k:Int)
noncomputable def Jo(L:List Value)(p:Int)(x:List Value):Prop:=H.ldOk (.cells true L) (Nat.add 0 (Nat.mul p.toNat 5)) true 5 (.agg ⟨x⟩)
noncomputable def uN(p:Int)(k:Nat):Prop:=B6 Tryz.prog kp .eql 3 (.int .i64 (IntKind.wrap .i64 (Int.add p 1))) (.int .i64 (Int.ofNat k))=some (.bool false)
theorem jm(d n:Int):Rn (Gt 47 [.int .u8 183, .int .u8 d, .int .u8 0, .int .i16 0, .int .i32 n]) ((.tuple ⟨[.agg ⟨[.int .i64 1, .int .i64 11, .int .i64 0, .bool true, .bool false]⟩, .int .i64 0]⟩, .cells false gl),[Bl d,D6 d]):=⟨by kernel_rfl,by kernel_rfl⟩
theorem jo(d n:Int):Rn (Gt 48 [.int .u8 183, .int .u8 d, .int .u8 0, .int .i16 0, .int .i32 n]) ((.int .i64 1, .cells false gl),[Bl d,D6 d]):=⟨by kernel_rfl,by kernel_rfl⟩
theorem jq(d n:Int)(own:Bool)(L:List Value)(k:Nat)(p:Int):Rn (OL own L [.int .u8 183, .int .u8 d, .int .u8 0, .int .i16 0, .int .i32 n] [] k p) ((.tuple ⟨[.agg ⟨[.int .i64 1, .int .i64 11, .int .i64 0, .bool true, .bool false]⟩, .int .i64 0]⟩, .cells false gl, .cells own L),IV p k::Jo L p [.int .u8 183, .int .u8 d, .int .u8 0, .int .i16 0, .int .i32 n]:: [Bl d,D6 d]):=⟨by kernel_rfl,by kernel_rfl⟩
theorem jr(d n:Int):Rn (Gt 47 [.int .u8 87, .int .u8 d, .int .u8 0, .int .i16 0, .int .i32 n]) ((.tuple ⟨[.agg ⟨[.int .i64 1, .int .i64 5, .int .i64 0, .bool true, .bool false]⟩, .int .i64 0]⟩, .cells false gl),[Bl d,D6 d]):=⟨by kernel_rfl,by kernel_rfl⟩
theorem jt(d n:Int):Rn (Gt 48 [.int .u8 87, .int .u8 d, .int .u8 0, .int .i16 0, .int .i32 n]) ((.int .i64 1, .cells false gl),[Bl d,D6 d]):=⟨by kernel_rfl,by kernel_rfl⟩
theorem ju(d n:Int)(own:Bool)(L:List Value)(k:Nat)(p:Int):Rn (OL own L [.int .u8 87, .int .u8 d, .int .u8 0, .int .i16 0, .int .i32 n] [] k p) ((.tuple ⟨[.agg ⟨[.int .i64 1, .int .i64 5, .int .i64 0, .bool true, .bool false]⟩, .int .i64 0]⟩, .cells false gl, .cells own L),IV p k::Jo L p [.int .u8 87, .int .u8 d, .int .u8 0, .int .i16 0, .int .i32 n]:: [Bl d,D6 d]):=⟨by kernel_rfl,by kernel_rfl⟩
theorem jw(d s:Int):Rn (Gt 47 [.int .u8 191, .int .u8 d, .int .u8 s, .int .i16 0, .int .i32 0]) ((.tuple ⟨[.agg ⟨[.int .i64 1, .int .i64 11, .int .i64 0, .bool true, .bool true]⟩, .int .i64 0]⟩, .cells false gl),[Bl d,D6 d,Bl s]):=⟨by kernel_rfl,by kernel_rfl⟩
theorem jx(d s:Int):Rn (Gt 48 [.int .u8 191, .int .u8 d, .int .u8 s, .int .i16 0, .int .i32 0]) ((.int .i64 1, .cells false gl),[Bl d,D6 d,Bl s]):=⟨by kernel_rfl,by kernel_rfl⟩
theorem jy(d s:Int)(own:Bool)(L:List Value)(k:Nat)(p:Int):Rn (OL own L [.int .u8 191, .int .u8 d, .int .u8 s, .int .i16 0, .int .i32 0] [] k p) ((.tuple ⟨[.agg ⟨[.int .i64 1, .int .i64 11, .int .i64 0, .bool true, .bool true]⟩, .int .i64 0]⟩, .cells false gl, .cells own L),IV p k::Jo L p [.int .u8 191, .int .u8 d, .int .u8 s, .int .i16 0, .int .i32 0]:: [Bl d,D6 d,Bl s]):=⟨by kernel_rfl,by kernel_rfl⟩
theorem jz(d s:Int):Rn (Gt 47 [.int .u8 95, .int .u8 d, .int .u8 s, .int .i16 0, .int .i32 0]) ((.tuple ⟨[.agg ⟨[.int .i64 1, .int .i64 5, .int .i64 0, .bool true, .bool true]⟩, .int .i64 0]⟩, .cells false gl),[Bl d,D6 d,Bl s]):=⟨by kernel_rfl,by kernel_rfl⟩
theorem kA(d s:Int):Rn (Gt 48 [.int .u8 95, .int .u8 d, .int .u8 s, .int .i16 0, .int .i32 0]) ((.int .i64 1, .cells false gl),[Bl d,D6 d,Bl s]):=⟨by kernel_rfl,by kernel_rfl⟩
theorem kB(d s:Int)(own:Bool)(L:List Value)(k:Nat)(p:Int):Rn (OL own L [.int .u8 95, .int .u8 d, .int .u8 s, .int .i16 0, .int .i32 0] [] k p) ((.tuple ⟨[.agg ⟨[.int .i64 1, .int .i64 5, .int .i64 0, .bool true, .bool true]⟩, .int .i64 0]⟩, .cells false gl, .cells own L),IV p k::Jo L p [.int .u8 95, .int .u8 d, .int .u8 s, .int .i16 0, .int .i32 0]:: [Bl d,D6 d,Bl s]):=⟨by kernel_rfl,by kernel_rfl⟩
theorem qR(n:Int):Rn (Gt 47 [.int .u8 180, .int .u8 0, .int .u8 0, .int .i16 0, .int .i32 n]) ((.tuple ⟨[.agg ⟨[.int .i64 1, .int .i64 11, .int .i64 0, .bool false, .bool false]⟩, .int .i64 0]⟩, .cells false gl),[Bl 0,D6 0]):=⟨by kernel_rfl,by kernel_rfl⟩
theorem qS(n:Int):Rn (Gt 48 [.int .u8 180, .int .u8 0, .int .u8 0, .int .i16 0, .int .i32 n]) ((.int .i64 1, .cells false gl),[Bl 0,D6 0]):=⟨by kernel_rfl,by kernel_rfl⟩
theorem qT(n:Int)(own:Bool)(L:List Value)(k:Nat)(p:Int):Rn (OL own L [.int .u8 180, .int .u8 0, .int .u8 0, .int .i16 0, .int .i32 n] [] k p) ((.tuple ⟨[.agg ⟨[.int .i64 1, .int .i64 11, .int .i64 0, .bool false, .bool false]⟩, .int .i64 0]⟩, .cells false gl, .cells own L),IV p k::Jo L p [.int .u8 180, .int .u8 0, .int .u8 0, .int .i16 0, .int .i32 n]:: [Bl 0,D6 0]):=⟨by kernel_rfl,by kernel_rfl⟩
theorem kC:Rn (Gt 47 [.int .u8 149, .int .u8 0, .int .u8 0, .int .i16 0, .int .i32 0]) ((.tuple ⟨[.agg ⟨[.int .i64 9, .int .i64 0, .int .i64 0, .bool false, .bool false]⟩, .int .i64 0]⟩, .cells false gl),[]):=⟨by kernel_rfl,by kernel_rfl⟩
theorem kD:Rn (Gt 48 [.int .u8 149, .int .u8 0, .int .u8 0, .int .i16 0, .int .i32 0]) ((.int .i64 1, .cells false gl),[]):=⟨by kernel_rfl,by kernel_rfl⟩
theorem kE(own:Bool)(L:List Value)(k:Nat)(p:Int):Rn (OL own L [.int .u8 149, .int .u8 0, .int .u8 0, .int .i16 0, .int .i32 0] [] k p) ((.tuple ⟨[.agg ⟨[.int .i64 9, .int .i64 0, .int .i64 0, .bool false, .bool false]⟩, .int .i64 0]⟩, .cells false gl, .cells own L),IV p k::Jo L p [.int .u8 149, .int .u8 0, .int .u8 0, .int .i16 0, .int .i32 0]:: []):=⟨by kernel_rfl,by kernel_rfl⟩
theorem cX(d s o:Int):Rn (Gt 47 [.int .u8 113, .int .u8 d, .int .u8 s, .int .i16 o, .int .i32 0]) ((.tuple ⟨[.agg ⟨[.int .i64 3, .int .i64 0, .int .i64 1, .bool false, .bool false]⟩, .int .i64 0]⟩, .cells false gl),[Bl d,D6 d,Bl s]):=⟨by kernel_rfl,by kernel_rfl⟩
theorem cY(d s o:Int):Rn (Gt 48 [.int .u8 113, .int .u8 d, .int .u8 s, .int .i16 o, .int .i32 0]) ((.int .i64 1, .cells false gl),[Bl d,D6 d,Bl s]):=⟨by kernel_rfl,by kernel_rfl⟩
theorem cZ(d s o:Int)(own:Bool)(L:List Value)(k:Nat)(p:Int):Rn (OL own L [.int .u8 113, .int .u8 d, .int .u8 s, .int .i16 o, .int .i32 0] [] k p) ((.tuple ⟨[.agg ⟨[.int .i64 3, .int .i64 0, .int .i64 1, .bool false, .bool false]⟩, .int .i64 0]⟩, .cells false gl, .cells own L),IV p k::Jo L p [.int .u8 113, .int .u8 d, .int .u8 s, .int .i16 o, .int .i32 0]:: [Bl d,D6 d,Bl s]):=⟨by kernel_rfl,by kernel_rfl⟩
theorem c9(d s o:Int):Rn (Gt 47 [.int .u8 105, .int .u8 d, .int .u8 s, .int .i16 o, .int .i32 0]) ((.tuple ⟨[.agg ⟨[.int .i64 3, .int .i64 0, .int .i64 2, .bool false, .bool false]⟩, .int .i64 0]⟩, .cells false gl),[Bl d,D6 d,Bl s]):=⟨by kernel_rfl,by kernel_rfl⟩
theorem cg(d s o:Int):Rn (Gt 48 [.int .u8 105, .int .u8 d, .int .u8 s, .int .i16 o, .int .i32 0]) ((.int .i64 1, .cells false gl),[Bl d,D6 d,Bl s]):=⟨by kernel_rfl,by kernel_rfl⟩
theorem ck(d s o:Int)(own:Bool)(L:List Value)(k:Nat)(p:Int):Rn (OL own L [.int .u8 105, .int .u8 d, .int .u8 s, .int .i16 o, .int .i32 0] [] k p) ((.tuple ⟨[.agg ⟨[.int .i64 3, .int .i64 0, .int .i64 2, .bool false, .bool false]⟩, .int .i64 0]⟩, .cells false gl, .cells own L),IV p k::Jo L p [.int .u8 105, .int .u8 d, .int .u8 s, .int .i16 o, .int .i32 0]:: [Bl d,D6 d,Bl s]):=⟨by kernel_rfl,by kernel_rfl⟩
theorem cm(d s o:Int):Rn (Gt 47 [.int .u8 97, .int .u8 d, .int .u8 s, .int .i16 o, .int .i32 0]) ((.tuple ⟨[.agg ⟨[.int .i64 3, .int .i64 0, .int .i64 4, .bool false, .bool false]⟩, .int .i64 0]⟩, .cells false gl),[Bl d,D6 d,Bl s]):=⟨by kernel_rfl,by kernel_rfl⟩
theorem cq(d s o:Int):Rn (Gt 48 [.int .u8 97, .int .u8 d, .int .u8 s, .int .i16 o, .int .i32 0]) ((.int .i64 1, .cells false gl),[Bl d,D6 d,Bl s]):=⟨by kernel_rfl,by kernel_rfl⟩
theorem cr(d s o:Int)(own:Bool)(L:List Value)(k:Nat)(p:Int):Rn (OL own L [.int .u8 97, .int .u8 d, .int .u8 s, .int .i16 o, .int .i32 0] [] k p) ((.tuple ⟨[.agg ⟨[.int .i64 3, .int .i64 0, .int .i64 4, .bool false, .bool false]⟩, .int .i64 0]⟩, .cells false gl, .cells own L),IV p k::Jo L p [.int .u8 97, .int .u8 d, .int .u8 s, .int .i16 o, .int .i32 0]:: [Bl d,D6 d,Bl s]):=⟨by kernel_rfl,by kernel_rfl⟩
theorem cu(d s o:Int):Rn (Gt 47 [.int .u8 121, .int .u8 d, .int .u8 s, .int .i16 o, .int .i32 0]) ((.tuple ⟨[.agg ⟨[.int .i64 3, .int .i64 0, .int .i64 8, .bool false, .bool false]⟩, .int .i64 0]⟩, .cells false gl),[Bl d,D6 d,Bl s]):=⟨by kernel_rfl,by kernel_rfl⟩
theorem cw(d s o:Int):Rn (Gt 48 [.int .u8 121, .int .u8 d, .int .u8 s, .int .i16 o, .int .i32 0]) ((.int .i64 1, .cells false gl),[Bl d,D6 d,Bl s]):=⟨by kernel_rfl,by kernel_rfl⟩
theorem cy(d s o:Int)(own:Bool)(L:List Value)(k:Nat)(p:Int):Rn (OL own L [.int .u8 121, .int .u8 d, .int .u8 s, .int .i16 o, .int .i32 0] [] k p) ((.tuple ⟨[.agg ⟨[.int .i64 3, .int .i64 0, .int .i64 8, .bool false, .bool false]⟩, .int .i64 0]⟩, .cells false gl, .cells own L),IV p k::Jo L p [.int .u8 121, .int .u8 d, .int .u8 s, .int .i16 o, .int .i32 0]:: [Bl d,D6 d,Bl s]):=⟨by kernel_rfl,by kernel_rfl⟩
theorem dA:Rn (Gt 47 [.int .u8 215, .int .u8 2, .int .u8 0, .int .i16 0, .int .i32 16]) ((.tuple ⟨[.agg ⟨[.int .i64 2, .int .i64 0, .int .i64 2, .bool false, .bool false]⟩, .int .i64 0]⟩, .cells false gl),[Bl 2,D6 2]):=⟨by kernel_rfl,by kernel_rfl⟩
theorem dB:Rn (Gt 48 [.int .u8 215, .int .u8 2, .int .u8 0, .int .i16 0, .int .i32 16]) ((.int .i64 1, .cells false gl),[Bl 2,D6 2]):=⟨by kernel_rfl,by kernel_rfl⟩
theorem dC(own:Bool)(L:List Value)(k:Nat)(p:Int):Rn (OL own L [.int .u8 215, .int .u8 2, .int .u8 0, .int .i16 0, .int .i32 16] [] k p) ((.tuple ⟨[.agg ⟨[.int .i64 2, .int .i64 0, .int .i64 2, .bool false, .bool false]⟩, .int .i64 0]⟩, .cells false gl, .cells own L),IV p k::Jo L p [.int .u8 215, .int .u8 2, .int .u8 0, .int .i16 0, .int .i32 16]:: [Bl 2,D6 2]):=⟨by kernel_rfl,by kernel_rfl⟩
theorem dD:Rn (Gt 47 [.int .u8 215, .int .u8 2, .int .u8 0, .int .i16 0, .int .i32 32]) ((.tuple ⟨[.agg ⟨[.int .i64 2, .int .i64 0, .int .i64 4, .bool false, .bool false]⟩, .int .i64 0]⟩, .cells false gl),[Bl 2,D6 2]):=⟨by kernel_rfl,by kernel_rfl⟩
theorem dE:Rn (Gt 48 [.int .u8 215, .int .u8 2, .int .u8 0, .int .i16 0, .int .i32 32]) ((.int .i64 1, .cells false gl),[Bl 2,D6 2]):=⟨by kernel_rfl,by kernel_rfl⟩
theorem dF(own:Bool)(L:List Value)(k:Nat)(p:Int):Rn (OL own L [.int .u8 215, .int .u8 2, .int .u8 0, .int .i16 0, .int .i32 32] [] k p) ((.tuple ⟨[.agg ⟨[.int .i64 2, .int .i64 0, .int .i64 4, .bool false, .bool false]⟩, .int .i64 0]⟩, .cells false gl, .cells own L),IV p k::Jo L p [.int .u8 215, .int .u8 2, .int .u8 0, .int .i16 0, .int .i32 32]:: [Bl 2,D6 2]):=⟨by kernel_rfl,by kernel_rfl⟩
theorem dG:Rn (Gt 47 [.int .u8 215, .int .u8 2, .int .u8 0, .int .i16 0, .int .i32 64]) ((.tuple ⟨[.agg ⟨[.int .i64 2, .int .i64 0, .int .i64 8, .bool false, .bool false]⟩, .int .i64 0]⟩, .cells false gl),[Bl 2,D6 2]):=⟨by kernel_rfl,by kernel_rfl⟩
theorem dH:Rn (Gt 48 [.int .u8 215, .int .u8 2, .int .u8 0, .int .i16 0, .int .i32 64]) ((.int .i64 1, .cells false gl),[Bl 2,D6 2]):=⟨by kernel_rfl,by kernel_rfl⟩
theorem dI(own:Bool)(L:List Value)(k:Nat)(p:Int):Rn (OL own L [.int .u8 215, .int .u8 2, .int .u8 0, .int .i16 0, .int .i32 64] [] k p) ((.tuple ⟨[.agg ⟨[.int .i64 2, .int .i64 0, .int .i64 8, .bool false, .bool false]⟩, .int .i64 0]⟩, .cells false gl, .cells own L),IV p k::Jo L p [.int .u8 215, .int .u8 2, .int .u8 0, .int .i16 0, .int .i32 64]:: [Bl 2,D6 2]):=⟨by kernel_rfl,by kernel_rfl⟩
theorem kF(d o n:Int):Rn (Gt 47 [.int .u8 53, .int .u8 d, .int .u8 0, .int .i16 o, .int .i32 n]) ((.tuple ⟨[.agg ⟨[.int .i64 6, .int .i64 3, .int .i64 0, .bool true, .bool false]⟩, .int .i64 0]⟩, .cells false gl),[Bl d]):=⟨by kernel_rfl,by kernel_rfl⟩
theorem kG(d o n:Int):Rn (Gt 48 [.int .u8 53, .int .u8 d, .int .u8 0, .int .i16 o, .int .i32 n]) ((.int .i64 1, .cells false gl),[Bl d]):=⟨by kernel_rfl,by kernel_rfl⟩
theorem kH(d o n:Int)(own:Bool)(L:List Value)(k:Nat)(p:Int):Rn (OL own L [.int .u8 53, .int .u8 d, .int .u8 0, .int .i16 o, .int .i32 n] [] k p) ((.tuple ⟨[.agg ⟨[.int .i64 6, .int .i64 3, .int .i64 0, .bool true, .bool false]⟩, .int .i64 0]⟩, .cells false gl, .cells own L),IV p k::Jo L p [.int .u8 53, .int .u8 d, .int .u8 0, .int .i16 o, .int .i32 n]:: [Bl d]):=⟨by kernel_rfl,by kernel_rfl⟩
theorem kJ(d o n:Int):Rn (Gt 47 [.int .u8 85, .int .u8 d, .int .u8 0, .int .i16 o, .int .i32 n]) ((.tuple ⟨[.agg ⟨[.int .i64 6, .int .i64 5, .int .i64 0, .bool true, .bool false]⟩, .int .i64 0]⟩, .cells false gl),[Bl d]):=⟨by kernel_rfl,by kernel_rfl⟩
theorem kK(d o n:Int):Rn (Gt 48 [.int .u8 85, .int .u8 d, .int .u8 0, .int .i16 o, .int .i32 n]) ((.int .i64 1, .cells false gl),[Bl d]):=⟨by kernel_rfl,by kernel_rfl⟩
theorem kL(d o n:Int)(own:Bool)(L:List Value)(k:Nat)(p:Int):Rn (OL own L [.int .u8 85, .int .u8 d, .int .u8 0, .int .i16 o, .int .i32 n] [] k p) ((.tuple ⟨[.agg ⟨[.int .i64 6, .int .i64 5, .int .i64 0, .bool true, .bool false]⟩, .int .i64 0]⟩, .cells false gl, .cells own L),IV p k::Jo L p [.int .u8 85, .int .u8 d, .int .u8 0, .int .i16 o, .int .i32 n]:: [Bl d]):=⟨by kernel_rfl,by kernel_rfl⟩
theorem dJ(d o n:Int):Rn (Gt 47 [.int .u8 165, .int .u8 d, .int .u8 0, .int .i16 o, .int .i32 n]) ((.tuple ⟨[.agg ⟨[.int .i64 6, .int .i64 10, .int .i64 0, .bool true, .bool false]⟩, .int .i64 0]⟩, .cells false gl),[Bl d]):=⟨by kernel_rfl,by kernel_rfl⟩
theorem dK(d o n:Int):Rn (Gt 48 [.int .u8 165, .int .u8 d, .int .u8 0, .int .i16 o, .int .i32 n]) ((.int .i64 1, .cells false gl),[Bl d]):=⟨by kernel_rfl,by kernel_rfl⟩
theorem dL(d o n:Int)(own:Bool)(L:List Value)(k:Nat)(p:Int):Rn (OL own L [.int .u8 165, .int .u8 d, .int .u8 0, .int .i16 o, .int .i32 n] [] k p) ((.tuple ⟨[.agg ⟨[.int .i64 6, .int .i64 10, .int .i64 0, .bool true, .bool false]⟩, .int .i64 0]⟩, .cells false gl, .cells own L),IV p k::Jo L p [.int .u8 165, .int .u8 d, .int .u8 0, .int .i16 o, .int .i32 n]:: [Bl d]):=⟨by kernel_rfl,by kernel_rfl⟩
theorem kM(d o n:Int):Rn (Gt 47 [.int .u8 37, .int .u8 d, .int .u8 0, .int .i16 o, .int .i32 n]) ((.tuple ⟨[.agg ⟨[.int .i64 6, .int .i64 2, .int .i64 0, .bool true, .bool false]⟩, .int .i64 0]⟩, .cells false gl),[Bl d]):=⟨by kernel_rfl,by kernel_rfl⟩
theorem kN(d o n:Int):Rn (Gt 48 [.int .u8 37, .int .u8 d, .int .u8 0, .int .i16 o, .int .i32 n]) ((.int .i64 1, .cells false gl),[Bl d]):=⟨by kernel_rfl,by kernel_rfl⟩
theorem kO(d o n:Int)(own:Bool)(L:List Value)(k:Nat)(p:Int):Rn (OL own L [.int .u8 37, .int .u8 d, .int .u8 0, .int .i16 o, .int .i32 n] [] k p) ((.tuple ⟨[.agg ⟨[.int .i64 6, .int .i64 2, .int .i64 0, .bool true, .bool false]⟩, .int .i64 0]⟩, .cells false gl, .cells own L),IV p k::Jo L p [.int .u8 37, .int .u8 d, .int .u8 0, .int .i16 o, .int .i32 n]:: [Bl d]):=⟨by kernel_rfl,by kernel_rfl⟩
theorem YP(o:Int):Rn (Gt 47 [.int .u8 173, .int .u8 2, .int .u8 3, .int .i16 o, .int .i32 0]) ((.tuple ⟨[.agg ⟨[.int .i64 6, .int .i64 10, .int .i64 0, .bool true, .bool true]⟩, .int .i64 0]⟩, .cells false gl),[Bl 2,Bl 3]):=⟨by kernel_rfl,by kernel_rfl⟩
theorem YQ(o:Int):Rn (Gt 48 [.int .u8 173, .int .u8 2, .int .u8 3, .int .i16 o, .int .i32 0]) ((.int .i64 1, .cells false gl),[Bl 2,Bl 3]):=⟨by kernel_rfl,by kernel_rfl⟩
theorem YR(o:Int)(own:Bool)(L:List Value)(k:Nat)(p:Int):Rn (OL own L [.int .u8 173, .int .u8 2, .int .u8 3, .int .i16 o, .int .i32 0] [] k p) ((.tuple ⟨[.agg ⟨[.int .i64 6, .int .i64 10, .int .i64 0, .bool true, .bool true]⟩, .int .i64 0]⟩, .cells false gl, .cells own L),IV p k::Jo L p [.int .u8 173, .int .u8 2, .int .u8 3, .int .i16 o, .int .i32 0]:: [Bl 2,Bl 3]):=⟨by kernel_rfl,by kernel_rfl⟩
theorem dM(o:Int):Rn (Gt 47 [.int .u8 45, .int .u8 2, .int .u8 3, .int .i16 o, .int .i32 0]) ((.tuple ⟨[.agg ⟨[.int .i64 6, .int .i64 2, .int .i64 0, .bool true, .bool true]⟩, .int .i64 0]⟩, .cells false gl),[Bl 2,Bl 3]):=⟨by kernel_rfl,by kernel_rfl⟩
theorem dN(o:Int):Rn (Gt 48 [.int .u8 45, .int .u8 2, .int .u8 3, .int .i16 o, .int .i32 0]) ((.int .i64 1, .cells false gl),[Bl 2,Bl 3]):=⟨by kernel_rfl,by kernel_rfl⟩
theorem dO(o:Int)(own:Bool)(L:List Value)(k:Nat)(p:Int):Rn (OL own L [.int .u8 45, .int .u8 2, .int .u8 3, .int .i16 o, .int .i32 0] [] k p) ((.tuple ⟨[.agg ⟨[.int .i64 6, .int .i64 2, .int .i64 0, .bool true, .bool true]⟩, .int .i64 0]⟩, .cells false gl, .cells own L),IV p k::Jo L p [.int .u8 45, .int .u8 2, .int .u8 3, .int .i16 o, .int .i32 0]:: [Bl 2,Bl 3]):=⟨by kernel_rfl,by kernel_rfl⟩
theorem kP(o:Int):Rn (Gt 47 [.int .u8 5, .int .u8 0, .int .u8 0, .int .i16 o, .int .i32 0]) ((.tuple ⟨[.agg ⟨[.int .i64 7, .int .i64 0, .int .i64 0, .bool false, .bool false]⟩, .int .i64 0]⟩, .cells false gl),[]):=⟨by kernel_rfl,by kernel_rfl⟩
theorem kQ(o:Int):Rn (Gt 48 [.int .u8 5, .int .u8 0, .int .u8 0, .int .i16 o, .int .i32 0]) ((.int .i64 1, .cells false gl),[]):=⟨by kernel_rfl,by kernel_rfl⟩
theorem kR(o:Int)(own:Bool)(L:List Value)(k:Nat)(p:Int):Rn (OL own L [.int .u8 5, .int .u8 0, .int .u8 0, .int .i16 o, .int .i32 0] [] k p) ((.tuple ⟨[.agg ⟨[.int .i64 7, .int .i64 0, .int .i64 0, .bool false, .bool false]⟩, .int .i64 0]⟩, .cells false gl, .cells own L),IV p k::Jo L p [.int .u8 5, .int .u8 0, .int .u8 0, .int .i16 o, .int .i32 0]:: []):=⟨by kernel_rfl,by kernel_rfl⟩
theorem dP(n:Int):Rn (Gt 47 [.int .u8 24, .int .u8 3, .int .u8 0, .int .i16 0, .int .i32 n]) ((.tuple ⟨[.agg ⟨[.int .i64 10, .int .i64 0, .int .i64 0, .bool false, .bool false]⟩, .int .i64 0]⟩, .cells false gl),[Bl 3,D6 3]):=⟨by kernel_rfl,by kernel_rfl⟩
theorem dQ(n:Int):Rn (Gt 48 [.int .u8 24, .int .u8 3, .int .u8 0, .int .i16 0, .int .i32 n]) ((.int .i64 2, .cells false gl),[Bl 3,D6 3]):=⟨by kernel_rfl,by kernel_rfl⟩
theorem dR(n:Int)(h:Int)(own:Bool)(L:List Value)(k:Nat)(p:Int):Rn (OL own L [.int .u8 24, .int .u8 3, .int .u8 0, .int .i16 0, .int .i32 n] [.int .u8 0, .int .u8 0, .int .u8 0, .int .i16 0, .int .i32 h] k p) ((.tuple ⟨[.agg ⟨[.int .i64 10, .int .i64 0, .int .i64 0, .bool false, .bool false]⟩, .int .i64 0]⟩, .cells false gl, .cells own L),IV p k::Jo L p [.int .u8 24, .int .u8 3, .int .u8 0, .int .i16 0, .int .i32 n]::([Bl 3,D6 3]++ [uN p k,IV (IntKind.wrap .i64 (Int.add p 1)) k,Jo L (IntKind.wrap .i64 (Int.add p 1)) [.int .u8 0, .int .u8 0, .int .u8 0, .int .i16 0, .int .i32 h]])):=⟨by kernel_rfl,by kernel_rfl⟩
noncomputable abbrev Jb:EV:=CG Tryz.prog kp 1 Hi 20
theorem l6{x y:List Value}(f:FuncId)(v:Value)(args:List Value)(m:Mem)(hc:(hO x y).call f=some v)(hs:(hO x y).says f args m v):Hi f args m=some (v,(hO x y).eff f m):=by cases hc
theorem dT{x y:List Value}(f:FuncId)(hc:(hO x y).call f=none)(a:List Value)(m:Mem):Hi f a m=none:=rfl
theorem Bh{f:FuncId}{x:List Value}{v:Value}{qs:List Prop}(h:Rn (Gt f x) ((v, .cells false gl),qs))(hq:∀q∈qs,q):∃m,Jb f [.agg ⟨x⟩] (mS gl [])=some (v,m)/\m.get 0= .cells false gl:=by
 obtain⟨v',m,a1,a2⟩:=H.callO_H (H:=hO [] []) (o:=Hi) (P:=Tryz.prog) (K:=kp) (G:=1) (k:=20) (f:=f) (args:= [.agg ⟨x⟩]) (m:=mS gl []) (g:=λv m=>(v,m.get 0)) l6 dT h.1 h.2 hq
 have e1:v'=v:=congrArg (λx=>x.1) a2
 have e2:m.get 0= .cells false gl:=congrArg (λx=>x.2) a2
 exact⟨m,by rw[←e1];exact a1,e2⟩
def PR(own:Bool)(L:List Value)(k:Nat)(p:Int)(w:List Value):Prop:=∃m,Jb 68 [Es (A6 1 k), .int .i64 p] (mS gl [.cells own L])=some (.tuple ⟨[.agg ⟨w⟩, .int .i64 0]⟩,m)/\m.get 0= .cells false gl/\m.get 1= .cells own L
theorem DR{own:Bool}{L x y w:List Value}{k:Nat}{p:Int}{qs:List Prop}(h:Rn (OL own L x y k p) ((.tuple ⟨[.agg ⟨w⟩, .int .i64 0]⟩, .cells false gl, .cells own L),qs))(hq:∀q∈qs,q):PR own L k p w:=by
 obtain⟨v',m,a1,a2⟩:=H.callO_H (H:=hO x y) (o:=Hi) (P:=Tryz.prog) (K:=kp) (G:=1) (k:=20) (f:=68) (args:= [Es (A6 1 k), .int .i64 p]) (m:=mS gl [.cells own L]) (g:=λv m=>(v,m.get 0,m.get 1)) l6 dT h.1 h.2 hq
 have e1:v'=_:=congrArg (λx=>x.1) a2
 have e2:m.get 0=_:=congrArg (λx=>x.2.1) a2
 have e3:m.get 1=_:=congrArg (λx=>x.2.2) a2
 exact⟨m,a1.trans (by rw[e1]),e2,e3⟩
def PS(x:B9)(w:List Value):Prop:=∃m,Jb 47 [.agg ⟨AU x⟩] (mS gl [])=some (.tuple ⟨[.agg ⟨w⟩, .int .i64 0]⟩,m)/\m.get 0= .cells false gl
def S7(x:B9)(n:Int):Prop:=∃m,Jb 48 [.agg ⟨AU x⟩] (mS gl [])=some (.int .i64 n,m)/\m.get 0= .cells false gl
structure Form(x:B9)(w:List Value):Prop where
 of:∃m,Jb 47 [.agg ⟨AU x⟩] (mS gl [])=some (.tuple ⟨[.agg ⟨w⟩, .int .i64 0]⟩,m)/\m.get 0= .cells false gl
 pl:∃m,Jb 48 [.agg ⟨AU x⟩] (mS gl [])=some (.int .i64 1,m)/\m.get 0= .cells false gl
 al:∀(own:Bool) (l:List B9) (p:Nat),l[p]?=some x->PR own (AE l) l.length (p:Int) w
theorem AA{p:Prop}{l:List Prop}(h:p)(hl:∀q∈l,q):∀q∈p::l,q:=λq hq=>by
 rcases List.mem_cons.1 hq with rfl|hq
 ·exact h
 ·exact hl q hq
theorem AT:∀q∈([]:List Prop),q:=λq hq=>by cases hq
theorem DW{d:Int}(h:0<=d)(h':d<=9):CL d:=⟨h,h'⟩
theorem AS{d:Int}(h:CL d):Bl d:=by
 have:=h.2
 unfold Bl
 simp[B6,Ba,Bc];omega
theorem B1{d:Int}(h:CL d):D6 d:=by
 have:=h.2
 unfold D6
 simp[B6,Ba,Bc];omega
theorem Cc{l:List B9}{p:Nat}{x:B9}(h:l[p]?=some x):IV (p:Int) l.length:=by
 have:=(List.getElem?_eq_some_iff.1 h).1
 exact⟨by omega,by omega⟩
theorem Cd{l:List B9}{p:Nat}{x:B9}(h:l[p]?=some x):Jo (AE l) (p:Int) (AU x):=(EK h).2
theorem UH{p:Nat}(h:p<=1000000):IntKind.wrap .i64 (Int.add (p:Int) 1)=((p+1:Nat):Int):=Ct (by omega)
theorem Vr{d n:Int}(hd:CL d):Form (DU 11 d n) [.int .i64 1, .int .i64 11, .int .i64 0, .bool true, .bool false]:=by
 have e:AU (DU 11 d n)= [.int .u8 183, .int .u8 d, .int .u8 0, .int .i16 0, .int .i32 n]:=by kernel_rfl
 exact⟨by rw[e];exact Bh (jm d n) (AA (AS hd) (AA (B1 hd) AT)),by rw[e];exact Bh (jo d n) (AA (AS hd) (AA (B1 hd) AT)),λown l p h=>DR (jq d n own (AE l) l.length (p:Int)) (AA (Cc h) (AA (by rw[←e];exact Cd h) (AA (AS hd) (AA (B1 hd) AT))))⟩
theorem Vs{d n:Int}(hd:CL d):Form (DU 5 d n) [.int .i64 1, .int .i64 5, .int .i64 0, .bool true, .bool false]:=by
 have e:AU (DU 5 d n)= [.int .u8 87, .int .u8 d, .int .u8 0, .int .i16 0, .int .i32 n]:=by kernel_rfl
 exact⟨by rw[e];exact Bh (jr d n) (AA (AS hd) (AA (B1 hd) AT)),by rw[e];exact Bh (jt d n) (AA (AS hd) (AA (B1 hd) AT)),λown l p h=>DR (ju d n own (AE l) l.length (p:Int)) (AA (Cc h) (AA (by rw[←e];exact Cd h) (AA (AS hd) (AA (B1 hd) AT))))⟩
theorem Vt{d s:Int}(hd:CL d)(hs:CL s):Form (Bj 11 d s) [.int .i64 1, .int .i64 11, .int .i64 0, .bool true, .bool true]:=by
 have e:AU (Bj 11 d s)= [.int .u8 191, .int .u8 d, .int .u8 s, .int .i16 0, .int .i32 0]:=by kernel_rfl
 exact⟨by rw[e];exact Bh (jw d s) (AA (AS hd) (AA (B1 hd) (AA (AS hs) AT))),by rw[e];exact Bh (jx d s) (AA (AS hd) (AA (B1 hd) (AA (AS hs) AT))),λown l p h=>DR (jy d s own (AE l) l.length (p:Int)) (AA (Cc h) (AA (by rw[←e];exact Cd h) (AA (AS hd) (AA (B1 hd) (AA (AS hs) AT)))))⟩
theorem Vu{d s:Int}(hd:CL d)(hs:CL s):Form (Bj 5 d s) [.int .i64 1, .int .i64 5, .int .i64 0, .bool true, .bool true]:=by
 have e:AU (Bj 5 d s)= [.int .u8 95, .int .u8 d, .int .u8 s, .int .i16 0, .int .i32 0]:=by kernel_rfl
 exact⟨by rw[e];exact Bh (jz d s) (AA (AS hd) (AA (B1 hd) (AA (AS hs) AT))),by rw[e];exact Bh (kA d s) (AA (AS hd) (AA (B1 hd) (AA (AS hs) AT))),λown l p h=>DR (kB d s own (AE l) l.length (p:Int)) (AA (Cc h) (AA (by rw[←e];exact Cd h) (AA (AS hd) (AA (B1 hd) (AA (AS hs) AT)))))⟩
theorem bF{n:Int}:Form (HC n) [.int .i64 1, .int .i64 11, .int .i64 0, .bool false, .bool false]:=by
 have e:AU (HC n)= [.int .u8 180, .int .u8 0, .int .u8 0, .int .i16 0, .int .i32 n]:=by kernel_rfl
 exact⟨by rw[e];exact Bh (qR n) (AA (AS (DW (by decide) (by decide))) (AA (B1 (DW (by decide) (by decide))) AT)),by rw[e];exact Bh (qS n) (AA (AS (DW (by decide) (by decide))) (AA (B1 (DW (by decide) (by decide))) AT)),λown l p h=>DR (qT n own (AE l) l.length (p:Int)) (AA (Cc h) (AA (by rw[←e];exact Cd h) (AA (AS (DW (by decide) (by decide))) (AA (B1 (DW (by decide) (by decide))) AT))))⟩
theorem Vv:Form (DS) [.int .i64 9, .int .i64 0, .int .i64 0, .bool false, .bool false]:=by
 have e:AU (DS)= [.int .u8 149, .int .u8 0, .int .u8 0, .int .i16 0, .int .i32 0]:=by kernel_rfl
 exact⟨by rw[e];exact Bh (kC) AT,by rw[e];exact Bh (kD) AT,λown l p h=>DR (kE own (AE l) l.length (p:Int)) (AA (Cc h) (AA (by rw[←e];exact Cd h) AT))⟩
theorem SR{d s o:Int}(hd:CL d)(hs:CL s):Form (BL 1 d s o) [.int .i64 3, .int .i64 0, .int .i64 1, .bool false, .bool false]:=by
 have e:AU (BL 1 d s o)= [.int .u8 113, .int .u8 d, .int .u8 s, .int .i16 (Gy o), .int .i32 0]:=by kernel_rfl
 exact⟨by rw[e];exact Bh (cX d s (Gy o)) (AA (AS hd) (AA (B1 hd) (AA (AS hs) AT))),by rw[e];exact Bh (cY d s (Gy o)) (AA (AS hd) (AA (B1 hd) (AA (AS hs) AT))),λown l p h=>DR (cZ d s (Gy o) own (AE l) l.length (p:Int)) (AA (Cc h) (AA (by rw[←e];exact Cd h) (AA (AS hd) (AA (B1 hd) (AA (AS hs) AT)))))⟩
theorem SS{d s o:Int}(hd:CL d)(hs:CL s):Form (BL 2 d s o) [.int .i64 3, .int .i64 0, .int .i64 2, .bool false, .bool false]:=by
 have e:AU (BL 2 d s o)= [.int .u8 105, .int .u8 d, .int .u8 s, .int .i16 (Gy o), .int .i32 0]:=by kernel_rfl
 exact⟨by rw[e];exact Bh (c9 d s (Gy o)) (AA (AS hd) (AA (B1 hd) (AA (AS hs) AT))),by rw[e];exact Bh (cg d s (Gy o)) (AA (AS hd) (AA (B1 hd) (AA (AS hs) AT))),λown l p h=>DR (ck d s (Gy o) own (AE l) l.length (p:Int)) (AA (Cc h) (AA (by rw[←e];exact Cd h) (AA (AS hd) (AA (B1 hd) (AA (AS hs) AT)))))⟩
theorem SU{d s o:Int}(hd:CL d)(hs:CL s):Form (BL 4 d s o) [.int .i64 3, .int .i64 0, .int .i64 4, .bool false, .bool false]:=by
 have e:AU (BL 4 d s o)= [.int .u8 97, .int .u8 d, .int .u8 s, .int .i16 (Gy o), .int .i32 0]:=by kernel_rfl
 exact⟨by rw[e];exact Bh (cm d s (Gy o)) (AA (AS hd) (AA (B1 hd) (AA (AS hs) AT))),by rw[e];exact Bh (cq d s (Gy o)) (AA (AS hd) (AA (B1 hd) (AA (AS hs) AT))),λown l p h=>DR (cr d s (Gy o) own (AE l) l.length (p:Int)) (AA (Cc h) (AA (by rw[←e];exact Cd h) (AA (AS hd) (AA (B1 hd) (AA (AS hs) AT)))))⟩
theorem SV{d s o:Int}(hd:CL d)(hs:CL s):Form (BL 8 d s o) [.int .i64 3, .int .i64 0, .int .i64 8, .bool false, .bool false]:=by
 have e:AU (BL 8 d s o)= [.int .u8 121, .int .u8 d, .int .u8 s, .int .i16 (Gy o), .int .i32 0]:=by kernel_rfl
 exact⟨by rw[e];exact Bh (cu d s (Gy o)) (AA (AS hd) (AA (B1 hd) (AA (AS hs) AT))),by rw[e];exact Bh (cw d s (Gy o)) (AA (AS hd) (AA (B1 hd) (AA (AS hs) AT))),λown l p h=>DR (cy d s (Gy o) own (AE l) l.length (p:Int)) (AA (Cc h) (AA (by rw[←e];exact Cd h) (AA (AS hd) (AA (B1 hd) (AA (AS hs) AT)))))⟩
theorem SW:Form (Ci 2) [.int .i64 2, .int .i64 0, .int .i64 2, .bool false, .bool false]:=by
 have e:AU (Ci 2)= [.int .u8 215, .int .u8 2, .int .u8 0, .int .i16 0, .int .i32 16]:=by kernel_rfl
 exact⟨by rw[e];exact Bh (dA) (AA (AS (DW (by decide) (by decide))) (AA (B1 (DW (by decide) (by decide))) AT)),by rw[e];exact Bh (dB) (AA (AS (DW (by decide) (by decide))) (AA (B1 (DW (by decide) (by decide))) AT)),λown l p h=>DR (dC own (AE l) l.length (p:Int)) (AA (Cc h) (AA (by rw[←e];exact Cd h) (AA (AS (DW (by decide) (by decide))) (AA (B1 (DW (by decide) (by decide))) AT))))⟩
theorem SX:Form (Ci 4) [.int .i64 2, .int .i64 0, .int .i64 4, .bool false, .bool false]:=by
 have e:AU (Ci 4)= [.int .u8 215, .int .u8 2, .int .u8 0, .int .i16 0, .int .i32 32]:=by kernel_rfl
 exact⟨by rw[e];exact Bh (dD) (AA (AS (DW (by decide) (by decide))) (AA (B1 (DW (by decide) (by decide))) AT)),by rw[e];exact Bh (dE) (AA (AS (DW (by decide) (by decide))) (AA (B1 (DW (by decide) (by decide))) AT)),λown l p h=>DR (dF own (AE l) l.length (p:Int)) (AA (Cc h) (AA (by rw[←e];exact Cd h) (AA (AS (DW (by decide) (by decide))) (AA (B1 (DW (by decide) (by decide))) AT))))⟩
theorem SY:Form (Ci 8) [.int .i64 2, .int .i64 0, .int .i64 8, .bool false, .bool false]:=by
 have e:AU (Ci 8)= [.int .u8 215, .int .u8 2, .int .u8 0, .int .i16 0, .int .i32 64]:=by kernel_rfl
 exact⟨by rw[e];exact Bh (dG) (AA (AS (DW (by decide) (by decide))) (AA (B1 (DW (by decide) (by decide))) AT)),by rw[e];exact Bh (dH) (AA (AS (DW (by decide) (by decide))) (AA (B1 (DW (by decide) (by decide))) AT)),λown l p h=>DR (dI own (AE l) l.length (p:Int)) (AA (Cc h) (AA (by rw[←e];exact Cd h) (AA (AS (DW (by decide) (by decide))) (AA (B1 (DW (by decide) (by decide))) AT))))⟩
theorem Vw{d o n:Int}(hd:CL d):Form (BJ (DO 3 d n) o) [.int .i64 6, .int .i64 3, .int .i64 0, .bool true, .bool false]:=by
 have e:AU (BJ (DO 3 d n) o)= [.int .u8 53, .int .u8 d, .int .u8 0, .int .i16 o, .int .i32 n]:=by kernel_rfl
 exact⟨by rw[e];exact Bh (kF d o n) (AA (AS hd) AT),by rw[e];exact Bh (kG d o n) (AA (AS hd) AT),λown l p h=>DR (kH d o n own (AE l) l.length (p:Int)) (AA (Cc h) (AA (by rw[←e];exact Cd h) (AA (AS hd) AT)))⟩
theorem Vx{d o n:Int}(hd:CL d):Form (BJ (DO 5 d n) o) [.int .i64 6, .int .i64 5, .int .i64 0, .bool true, .bool false]:=by
 have e:AU (BJ (DO 5 d n) o)= [.int .u8 85, .int .u8 d, .int .u8 0, .int .i16 o, .int .i32 n]:=by kernel_rfl
 exact⟨by rw[e];exact Bh (kJ d o n) (AA (AS hd) AT),by rw[e];exact Bh (kK d o n) (AA (AS hd) AT),λown l p h=>DR (kL d o n own (AE l) l.length (p:Int)) (AA (Cc h) (AA (by rw[←e];exact Cd h) (AA (AS hd) AT)))⟩
theorem SZ{d o n:Int}(hd:CL d):Form (BJ (DO 10 d n) o) [.int .i64 6, .int .i64 10, .int .i64 0, .bool true, .bool false]:=by
 have e:AU (BJ (DO 10 d n) o)= [.int .u8 165, .int .u8 d, .int .u8 0, .int .i16 o, .int .i32 n]:=by kernel_rfl
 exact⟨by rw[e];exact Bh (dJ d o n) (AA (AS hd) AT),by rw[e];exact Bh (dK d o n) (AA (AS hd) AT),λown l p h=>DR (dL d o n own (AE l) l.length (p:Int)) (AA (Cc h) (AA (by rw[←e];exact Cd h) (AA (AS hd) AT)))⟩
theorem Vy{d o n:Int}(hd:CL d):Form (BJ (DO 2 d n) o) [.int .i64 6, .int .i64 2, .int .i64 0, .bool true, .bool false]:=by
 have e:AU (BJ (DO 2 d n) o)= [.int .u8 37, .int .u8 d, .int .u8 0, .int .i16 o, .int .i32 n]:=by kernel_rfl
 exact⟨by rw[e];exact Bh (kM d o n) (AA (AS hd) AT),by rw[e];exact Bh (kN d o n) (AA (AS hd) AT),λown l p h=>DR (kO d o n own (AE l) l.length (p:Int)) (AA (Cc h) (AA (by rw[←e];exact Cd h) (AA (AS hd) AT)))⟩
theorem PQ{o:Int}:Form (BJ (Ey 10) o) [.int .i64 6, .int .i64 10, .int .i64 0, .bool true, .bool true]:=by
 have e:AU (BJ (Ey 10) o)= [.int .u8 173, .int .u8 2, .int .u8 3, .int .i16 o, .int .i32 0]:=by kernel_rfl
 exact⟨by rw[e];exact Bh (YP o) (AA (AS (DW (by decide) (by decide))) (AA (AS (DW (by decide) (by decide))) AT)),by rw[e];exact Bh (YQ o) (AA (AS (DW (by decide) (by decide))) (AA (AS (DW (by decide) (by decide))) AT)),λown l p h=>DR (YR o own (AE l) l.length (p:Int)) (AA (Cc h) (AA (by rw[←e];exact Cd h) (AA (AS (DW (by decide) (by decide))) (AA (AS (DW (by decide) (by decide))) AT))))⟩
theorem S0{o:Int}:Form (BJ (Ey 2) o) [.int .i64 6, .int .i64 2, .int .i64 0, .bool true, .bool true]:=by
 have e:AU (BJ (Ey 2) o)= [.int .u8 45, .int .u8 2, .int .u8 3, .int .i16 o, .int .i32 0]:=by kernel_rfl
 exact⟨by rw[e];exact Bh (dM o) (AA (AS (DW (by decide) (by decide))) (AA (AS (DW (by decide) (by decide))) AT)),by rw[e];exact Bh (dN o) (AA (AS (DW (by decide) (by decide))) (AA (AS (DW (by decide) (by decide))) AT)),λown l p h=>DR (dO o own (AE l) l.length (p:Int)) (AA (Cc h) (AA (by rw[←e];exact Cd h) (AA (AS (DW (by decide) (by decide))) (AA (AS (DW (by decide) (by decide))) AT))))⟩
theorem Vz{o:Int}:Form (BJ CC o) [.int .i64 7, .int .i64 0, .int .i64 0, .bool false, .bool false]:=by
 have e:AU (BJ CC o)= [.int .u8 5, .int .u8 0, .int .u8 0, .int .i16 o, .int .i32 0]:=by kernel_rfl
 exact⟨by rw[e];exact Bh (kP o) AT,by rw[e];exact Bh (kQ o) AT,λown l p h=>DR (kR o own (AE l) l.length (p:Int)) (AA (Cc h) (AA (by rw[←e];exact Cd h) AT))⟩
theorem Nu{n:Int}:PS (Bq n) [.int .i64 10, .int .i64 0, .int .i64 0, .bool false, .bool false]/\S7 (Bq n) 2/\∀(own:Bool) (l:List B9) (p:Nat),l[p]?=some (Bq n)->l[p+1]?=some (DG n)->p+2<l.length->l.length<=1000000->PR own (AE l) l.length (p:Int) [.int .i64 10, .int .i64 0, .int .i64 0, .bool false, .bool false]:=by
 have e:AU (Bq n)= [.int .u8 24, .int .u8 3, .int .u8 0, .int .i16 0, .int .i32 (Kg (n % 4294967296))]:=by kernel_rfl
 have e':AU (DG n)= [.int .u8 0, .int .u8 0, .int .u8 0, .int .i16 0, .int .i32 (Kg (n / 4294967296))]:=by kernel_rfl
 refine⟨by unfold PS;rw[e];exact Bh (dP (Kg (n % 4294967296))) (AA (AS (DW (by decide) (by decide))) (AA (B1 (DW (by decide) (by decide))) AT)),by unfold S7;rw[e];exact Bh (dQ (Kg (n % 4294967296))) (AA (AS (DW (by decide) (by decide))) (AA (B1 (DW (by decide) (by decide))) AT)),λown l p h h' hp hl=>?_⟩
 have hw:IntKind.wrap .i64 (Int.add (p:Int) 1)=((p+1:Nat):Int):=UH (by omega)
 exact DR (dR (Kg (n % 4294967296)) (Kg (n / 4294967296)) own (AE l) l.length (p:Int)) (AA (Cc h) (AA (by rw[←e];exact Cd h) (AA (AS (DW (by decide) (by decide))) (AA (B1 (DW (by decide) (by decide))) (AA (by unfold uN;rw[hw];simp[B6,Ba,Bc];omega) (AA (by rw[hw];exact Cc h') (AA (by rw[hw,←e'];exact Cd h') AT)))))))
section
variable{own:Bool}{pk:List Int}{cap off z:Nat}
end
noncomputable def hH(N:Int)(ok b1 b2 lt15:Bool)(b14:Int)(o63:C1):H.Hint where
 ix t:=Nat.beq t 23
 ld _ t _:=cond (Nat.beq t 5) (some (.int .u8 b14)) none
 cmp op t:=cond (Nat.beq t 3) (BinOp.rec (motive:=λ_=>Option Bool) none none none none none none none none none none none none none (some lt15) none none none op) none
 ap _:=none
 call f:=cond (Nat.beq f 18) (some (.bool true)) (cond (Nat.beq f 63) (some (.tuple ⟨[.int .u64 N, .bool ok]⟩)) none)
 spec _ _ _ _:=False
 blk:=0
 specM f:=some λargs m v=>o63 f args m=some (v,m)
 cmpO op t a:=cond (Nat.beq t 38) (BinOp.rec (motive:=λ_=>Option Bool) none none none none none none none none none none none none none none (match a with| .tmp 27=>some b1| .tmp 33=>some b2|_=>none) none none op) none
noncomputable def AQ(neg:Bool)(kind pos size mask lo hi:Int):List Value:= [.bool neg, .int .i64 kind, .int .i64 pos, .int .i64 size, .int .u64 mask, .int .u64 lo, .int .u64 hi]
noncomputable def yZ(N:Int)(ok b1 b2 lt15:Bool)(b14:Int)(o63:C1)(own:Bool)(P:List Value)(pv:Value)(port:Int)(tv:List Value):Option (H.TT (Value×BI×BI)):=
 H.callT (hH N ok b1 b2 lt15 b14 o63) Tryz.prog kp 1 20 17 [.agg ⟨tv⟩,pv, .int .u32 port] (mS gl [.cells own P]) λv m=>some ((v,m.get 0,m.get 1),[],[])
noncomputable def GZ(a b:Int)(r:Bool):Prop:=B6 Tryz.prog kp .leq 38 (.int .u64 a) (.int .u64 b)=some (.bool r)
noncomputable def q18(o63:C1)(own:Bool)(P tv:List Value):Prop:=o63 18 [.agg ⟨tv⟩] (mS gl [.cells own P, .cells true tv])=some (.bool true,mS gl [.cells own P, .cells true tv])
noncomputable def y1(N:Int)(ok b1 b2 lt15:Bool)(b14:Int)(o63:C1)(port:Int)(tv:List Value):Option (H.TT (Value×BI)):=
 H.callT (hH N ok b1 b2 lt15 b14 o63) Tryz.prog kp 1 20 17 [.agg ⟨tv⟩, .slice none 0 0, .int .u32 port] (mS gl []) λv m=>some ((v,m.get 0),[],[])
noncomputable def y3(o63:C1)(tv:List Value):Prop:=o63 18 [.agg ⟨tv⟩] (mS gl [.cells true tv])=some (.bool true,mS gl [.cells true tv])
noncomputable def yJ:List Value:= [.string ⟨#[]⟩, .func (.func 62) #[] #[]]
noncomputable def kB4:List Value:= [.string ⟨#[112,97,115,116,32]⟩, .func (.func 64) #[] #[]]
noncomputable def q63(o63:C1)(own:Bool)(P:List Value)(np cap:Nat)(sp:Option Nat)(tv kb:List Value)(at_ size N:Int)(ok:Bool):Prop:=
 o63 63 [u5 np cap sp, .int .i64 at_, .int .i64 size] (mS gl [.cells own P, .cells true tv, .cells true kb, .cells true tv])=some (.tuple ⟨[.int .u64 N, .bool ok]⟩,mS gl [.cells own P, .cells true tv, .cells true kb, .cells true tv])
noncomputable def y4(o63:C1)(tv:List Value)(at_ size:Int):Prop:=
 o63 63 [.slice none 0 0, .int .i64 at_, .int .i64 size] (mS gl [.cells true tv, .cells true yJ, .cells true tv])=some (.tuple ⟨[.int .u64 0, .bool false]⟩,mS gl [.cells true tv, .cells true yJ, .cells true tv])
noncomputable def sj(a b:Int):Int:=IntKind.wrap .u64 ((BitVec.ofInt (IntKind.bits .u64) a &&& BitVec.ofInt (IntKind.bits .u64) b).toNat:Nat)
noncomputable def at4(b14 pos:Int):Int:=IntKind.wrap .i64 (Int.add (IntKind.wrap .i64 (Int.add 14 (IntKind.wrap .i64 (Int.mul 4 (IntKind.wrap .i64 (IntKind.wrap .u8 ((BitVec.ofInt (IntKind.bits .u8) b14 &&& BitVec.ofInt (IntKind.bits .u8) 15).toNat:Nat))))))) pos)
noncomputable def y6(np:Nat)(b:Bool):Prop:=B6 Tryz.prog kp .lss 3 (.int .i64 (Int.ofNat np)) (.int .i64 15)=some (.bool b)
noncomputable def y9(p:Int)(k:Nat):Prop:=0<=p/\p< (k:Int)
noncomputable def yd(P:List Value)(b14:Int):Prop:=H.ldOk (.cells true P) (Nat.add 0 (Nat.mul 14 1)) false 1 (.int .u8 b14)
theorem Ss:Y.callK Tryz.prog kp 1 200 5 [] (mG gl) (λv m=>some (v,m.get 0))=some (.bool true, .cells false gl):=by kernel_rfl
set_option maxHeartbeats 4000000
variable{α:Type}
theorem fJ:Y.callK Tryz.prog kp 1 20 40 [.int .i64 1] (mG gl) (λv m=>some (v,m.get 0))=
 (some ((.int .u64 255),.cells false gl)):=by kernel_rfl
theorem fS:Y.callK Tryz.prog kp 1 20 34 [.int .i64 1] (mG gl) (λv m=>some (v,m.get 0))=
 (some ((.int .u64 255),.cells false gl)):=by kernel_rfl
theorem fO:Y.callK Tryz.prog kp 1 20 59 [.int .i64 1] (mG gl) (λv m=>some (v,m.get 0))=
 (some ((.int .u64 255),.cells false gl)):=by kernel_rfl
theorem fK:Y.callK Tryz.prog kp 1 20 40 [.int .i64 2] (mG gl) (λv m=>some (v,m.get 0))=
 (some ((.int .u64 65535),.cells false gl)):=by kernel_rfl
theorem fT:Y.callK Tryz.prog kp 1 20 34 [.int .i64 2] (mG gl) (λv m=>some (v,m.get 0))=
 (some ((.int .u64 65535),.cells false gl)):=by kernel_rfl
theorem fP:Y.callK Tryz.prog kp 1 20 59 [.int .i64 2] (mG gl) (λv m=>some (v,m.get 0))=
 (some ((.int .u64 65535),.cells false gl)):=by kernel_rfl
theorem fL:Y.callK Tryz.prog kp 1 20 40 [.int .i64 4] (mG gl) (λv m=>some (v,m.get 0))=
 (some ((.int .u64 4294967295),.cells false gl)):=by kernel_rfl
theorem fU:Y.callK Tryz.prog kp 1 20 34 [.int .i64 4] (mG gl) (λv m=>some (v,m.get 0))=
 (some ((.int .u64 4294967295),.cells false gl)):=by kernel_rfl
theorem fQ:Y.callK Tryz.prog kp 1 20 59 [.int .i64 4] (mG gl) (λv m=>some (v,m.get 0))=
 (some ((.int .u64 4294967295),.cells false gl)):=by kernel_rfl
theorem fM:Y.callK Tryz.prog kp 1 20 40 [.int .i64 8] (mG gl) (λv m=>some (v,m.get 0))=
 (some ((.int .u64 18446744073709551615),.cells false gl)):=by kernel_rfl
theorem fV:Y.callK Tryz.prog kp 1 20 34 [.int .i64 8] (mG gl) (λv m=>some (v,m.get 0))=
 (some ((.int .u64 18446744073709551615),.cells false gl)):=by kernel_rfl
theorem fR:Y.callK Tryz.prog kp 1 20 59 [.int .i64 8] (mG gl) (λv m=>some (v,m.get 0))=
 (some ((.int .u64 18446744073709551615),.cells false gl)):=by kernel_rfl
theorem fN(n:Int):Y.callK Tryz.prog kp 1 20 41 [.int .u64 n] (mG gl) (λv m=>some (v,m.get 0))=
 (cond (Y.ltF n 2147483648) (some ((.bool true),.cells false gl)) (some ((.bool false),.cells false gl))):=by kernel_rfl
theorem XI(im:Int):Y.callK Tryz.prog kp 1 20 65 [.agg ⟨[.int .i64 1,.int .i64 11,.int .i64 0,.bool true,.bool false]⟩,.agg ⟨[.int .u8 0,.int .u8 2,.int .u8 0,.int .i16 0,.int .i32 im]⟩] (mG gl) (λv m=>some (v,m.get 0))=
 (some ((.tuple ⟨[.agg ⟨[.int .u8 183,.int .u8 2,.int .u8 0,.int .i16 0,.int .i32 im]⟩,.int .i64 0]⟩),.cells false gl)):=by kernel_rfl
theorem Qv(im:Int):Y.callK Tryz.prog kp 1 20 65 [.agg ⟨[.int .i64 1,.int .i64 11,.int .i64 0,.bool true,.bool false]⟩,.agg ⟨[.int .u8 0,.int .u8 3,.int .u8 0,.int .i16 0,.int .i32 im]⟩] (mG gl) (λv m=>some (v,m.get 0))=
 (some ((.tuple ⟨[.agg ⟨[.int .u8 183,.int .u8 3,.int .u8 0,.int .i16 0,.int .i32 im]⟩,.int .i64 0]⟩),.cells false gl)):=by kernel_rfl
theorem ZL(im:Int):Y.callK Tryz.prog kp 1 20 65 [.agg ⟨[.int .i64 1,.int .i64 5,.int .i64 0,.bool true,.bool false]⟩,.agg ⟨[.int .u8 0,.int .u8 2,.int .u8 0,.int .i16 0,.int .i32 im]⟩] (mG gl) (λv m=>some (v,m.get 0))=
 (some ((.tuple ⟨[.agg ⟨[.int .u8 87,.int .u8 2,.int .u8 0,.int .i16 0,.int .i32 im]⟩,.int .i64 0]⟩),.cells false gl)):=by kernel_rfl
theorem Qw:Y.callK Tryz.prog kp 1 20 65 [.agg ⟨[.int .i64 1,.int .i64 11,.int .i64 0,.bool true,.bool true]⟩,.agg ⟨[.int .u8 0,.int .u8 6,.int .u8 1,.int .i16 0,.int .i32 0]⟩] (mG gl) (λv m=>some (v,m.get 0))=
 (some ((.tuple ⟨[.agg ⟨[.int .u8 191,.int .u8 6,.int .u8 1,.int .i16 0,.int .i32 0]⟩,.int .i64 0]⟩),.cells false gl)):=by kernel_rfl
theorem Qx:Y.callK Tryz.prog kp 1 20 65 [.agg ⟨[.int .i64 1,.int .i64 11,.int .i64 0,.bool true,.bool true]⟩,.agg ⟨[.int .u8 0,.int .u8 2,.int .u8 8,.int .i16 0,.int .i32 0]⟩] (mG gl) (λv m=>some (v,m.get 0))=
 (some ((.tuple ⟨[.agg ⟨[.int .u8 191,.int .u8 2,.int .u8 8,.int .i16 0,.int .i32 0]⟩,.int .i64 0]⟩),.cells false gl)):=by kernel_rfl
theorem XJ:Y.callK Tryz.prog kp 1 20 65 [.agg ⟨[.int .i64 1,.int .i64 5,.int .i64 0,.bool true,.bool true]⟩,.agg ⟨[.int .u8 0,.int .u8 2,.int .u8 3,.int .i16 0,.int .i32 0]⟩] (mG gl) (λv m=>some (v,m.get 0))=
 (some ((.tuple ⟨[.agg ⟨[.int .u8 95,.int .u8 2,.int .u8 3,.int .i16 0,.int .i32 0]⟩,.int .i64 0]⟩),.cells false gl)):=by kernel_rfl
theorem fB(im:Int):Y.callK Tryz.prog kp 1 20 65 [.agg ⟨[.int .i64 1,.int .i64 11,.int .i64 0,.bool false,.bool false]⟩,.agg ⟨[.int .u8 0,.int .u8 0,.int .u8 0,.int .i16 0,.int .i32 im]⟩] (mG gl) (λv m=>some (v,m.get 0))=
 (some ((.tuple ⟨[.agg ⟨[.int .u8 180,.int .u8 0,.int .u8 0,.int .i16 0,.int .i32 im]⟩,.int .i64 0]⟩),.cells false gl)):=by kernel_rfl
theorem ZM:Y.callK Tryz.prog kp 1 20 65 [.agg ⟨[.int .i64 9,.int .i64 0,.int .i64 0,.bool false,.bool false]⟩,.agg ⟨[.int .u8 0,.int .u8 0,.int .u8 0,.int .i16 0,.int .i32 0]⟩] (mG gl) (λv m=>some (v,m.get 0))=
 (some ((.tuple ⟨[.agg ⟨[.int .u8 149,.int .u8 0,.int .u8 0,.int .i16 0,.int .i32 0]⟩,.int .i64 0]⟩),.cells false gl)):=by kernel_rfl
theorem XK(im:Int):Y.callK Tryz.prog kp 1 20 65 [.agg ⟨[.int .i64 10,.int .i64 0,.int .i64 0,.bool false,.bool false]⟩,.agg ⟨[.int .u8 0,.int .u8 3,.int .u8 0,.int .i16 0,.int .i32 im]⟩] (mG gl) (λv m=>some (v,m.get 0))=
 (some ((.tuple ⟨[.agg ⟨[.int .u8 24,.int .u8 3,.int .u8 0,.int .i16 0,.int .i32 im]⟩,.int .i64 0]⟩),.cells false gl)):=by kernel_rfl
theorem ZN(of:Int):Y.callK Tryz.prog kp 1 20 65 [.agg ⟨[.int .i64 3,.int .i64 0,.int .i64 4,.bool false,.bool false]⟩,.agg ⟨[.int .u8 0,.int .u8 8,.int .u8 6,.int .i16 of,.int .i32 0]⟩] (mG gl) (λv m=>some (v,m.get 0))=
 (some ((.tuple ⟨[.agg ⟨[.int .u8 97,.int .u8 8,.int .u8 6,.int .i16 of,.int .i32 0]⟩,.int .i64 0]⟩),.cells false gl)):=by kernel_rfl
theorem ZO(of:Int):Y.callK Tryz.prog kp 1 20 65 [.agg ⟨[.int .i64 3,.int .i64 0,.int .i64 4,.bool false,.bool false]⟩,.agg ⟨[.int .u8 0,.int .u8 2,.int .u8 6,.int .i16 of,.int .i32 0]⟩] (mG gl) (λv m=>some (v,m.get 0))=
 (some ((.tuple ⟨[.agg ⟨[.int .u8 97,.int .u8 2,.int .u8 6,.int .i16 of,.int .i32 0]⟩,.int .i64 0]⟩),.cells false gl)):=by kernel_rfl
theorem fC(of:Int):Y.callK Tryz.prog kp 1 20 65 [.agg ⟨[.int .i64 3,.int .i64 0,.int .i64 8,.bool false,.bool false]⟩,.agg ⟨[.int .u8 0,.int .u8 7,.int .u8 1,.int .i16 of,.int .i32 0]⟩] (mG gl) (λv m=>some (v,m.get 0))=
 (some ((.tuple ⟨[.agg ⟨[.int .u8 121,.int .u8 7,.int .u8 1,.int .i16 of,.int .i32 0]⟩,.int .i64 0]⟩),.cells false gl)):=by kernel_rfl
theorem XL(of:Int):Y.callK Tryz.prog kp 1 20 65 [.agg ⟨[.int .i64 3,.int .i64 0,.int .i64 1,.bool false,.bool false]⟩,.agg ⟨[.int .u8 0,.int .u8 2,.int .u8 7,.int .i16 of,.int .i32 0]⟩] (mG gl) (λv m=>some (v,m.get 0))=
 (some ((.tuple ⟨[.agg ⟨[.int .u8 113,.int .u8 2,.int .u8 7,.int .i16 of,.int .i32 0]⟩,.int .i64 0]⟩),.cells false gl)):=by kernel_rfl
theorem XM(of:Int):Y.callK Tryz.prog kp 1 20 65 [.agg ⟨[.int .i64 3,.int .i64 0,.int .i64 2,.bool false,.bool false]⟩,.agg ⟨[.int .u8 0,.int .u8 2,.int .u8 7,.int .i16 of,.int .i32 0]⟩] (mG gl) (λv m=>some (v,m.get 0))=
 (some ((.tuple ⟨[.agg ⟨[.int .u8 105,.int .u8 2,.int .u8 7,.int .i16 of,.int .i32 0]⟩,.int .i64 0]⟩),.cells false gl)):=by kernel_rfl
theorem XN(of:Int):Y.callK Tryz.prog kp 1 20 65 [.agg ⟨[.int .i64 3,.int .i64 0,.int .i64 4,.bool false,.bool false]⟩,.agg ⟨[.int .u8 0,.int .u8 2,.int .u8 7,.int .i16 of,.int .i32 0]⟩] (mG gl) (λv m=>some (v,m.get 0))=
 (some ((.tuple ⟨[.agg ⟨[.int .u8 97,.int .u8 2,.int .u8 7,.int .i16 of,.int .i32 0]⟩,.int .i64 0]⟩),.cells false gl)):=by kernel_rfl
theorem XO(of:Int):Y.callK Tryz.prog kp 1 20 65 [.agg ⟨[.int .i64 3,.int .i64 0,.int .i64 8,.bool false,.bool false]⟩,.agg ⟨[.int .u8 0,.int .u8 2,.int .u8 7,.int .i16 of,.int .i32 0]⟩] (mG gl) (λv m=>some (v,m.get 0))=
 (some ((.tuple ⟨[.agg ⟨[.int .u8 121,.int .u8 2,.int .u8 7,.int .i16 of,.int .i32 0]⟩,.int .i64 0]⟩),.cells false gl)):=by kernel_rfl
theorem fD(im:Int):Y.callK Tryz.prog kp 1 20 65 [.agg ⟨[.int .i64 6,.int .i64 3,.int .i64 0,.bool true,.bool false]⟩,.agg ⟨[.int .u8 0,.int .u8 8,.int .u8 0,.int .i16 0,.int .i32 im]⟩] (mG gl) (λv m=>some (v,m.get 0))=
 (some ((.tuple ⟨[.agg ⟨[.int .u8 53,.int .u8 8,.int .u8 0,.int .i16 0,.int .i32 im]⟩,.int .i64 0]⟩),.cells false gl)):=by kernel_rfl
theorem fE(im:Int):Y.callK Tryz.prog kp 1 20 65 [.agg ⟨[.int .i64 6,.int .i64 5,.int .i64 0,.bool true,.bool false]⟩,.agg ⟨[.int .u8 0,.int .u8 2,.int .u8 0,.int .i16 0,.int .i32 im]⟩] (mG gl) (λv m=>some (v,m.get 0))=
 (some ((.tuple ⟨[.agg ⟨[.int .u8 85,.int .u8 2,.int .u8 0,.int .i16 0,.int .i32 im]⟩,.int .i64 0]⟩),.cells false gl)):=by kernel_rfl
theorem ZP(im:Int):Y.callK Tryz.prog kp 1 20 65 [.agg ⟨[.int .i64 6,.int .i64 10,.int .i64 0,.bool true,.bool false]⟩,.agg ⟨[.int .u8 0,.int .u8 2,.int .u8 0,.int .i16 0,.int .i32 im]⟩] (mG gl) (λv m=>some (v,m.get 0))=
 (some ((.tuple ⟨[.agg ⟨[.int .u8 165,.int .u8 2,.int .u8 0,.int .i16 0,.int .i32 im]⟩,.int .i64 0]⟩),.cells false gl)):=by kernel_rfl
theorem fF(im:Int):Y.callK Tryz.prog kp 1 20 65 [.agg ⟨[.int .i64 6,.int .i64 2,.int .i64 0,.bool true,.bool false]⟩,.agg ⟨[.int .u8 0,.int .u8 2,.int .u8 0,.int .i16 0,.int .i32 im]⟩] (mG gl) (λv m=>some (v,m.get 0))=
 (some ((.tuple ⟨[.agg ⟨[.int .u8 37,.int .u8 2,.int .u8 0,.int .i16 0,.int .i32 im]⟩,.int .i64 0]⟩),.cells false gl)):=by kernel_rfl
theorem XP:Y.callK Tryz.prog kp 1 20 65 [.agg ⟨[.int .i64 6,.int .i64 10,.int .i64 0,.bool true,.bool true]⟩,.agg ⟨[.int .u8 0,.int .u8 2,.int .u8 3,.int .i16 0,.int .i32 0]⟩] (mG gl) (λv m=>some (v,m.get 0))=
 (some ((.tuple ⟨[.agg ⟨[.int .u8 173,.int .u8 2,.int .u8 3,.int .i16 0,.int .i32 0]⟩,.int .i64 0]⟩),.cells false gl)):=by kernel_rfl
theorem ZQ:Y.callK Tryz.prog kp 1 20 65 [.agg ⟨[.int .i64 6,.int .i64 2,.int .i64 0,.bool true,.bool true]⟩,.agg ⟨[.int .u8 0,.int .u8 2,.int .u8 3,.int .i16 0,.int .i32 0]⟩] (mG gl) (λv m=>some (v,m.get 0))=
 (some ((.tuple ⟨[.agg ⟨[.int .u8 45,.int .u8 2,.int .u8 3,.int .i16 0,.int .i32 0]⟩,.int .i64 0]⟩),.cells false gl)):=by kernel_rfl
theorem ZR:Y.callK Tryz.prog kp 1 20 65 [.agg ⟨[.int .i64 7,.int .i64 0,.int .i64 0,.bool false,.bool false]⟩,.agg ⟨[.int .u8 0,.int .u8 0,.int .u8 0,.int .i16 0,.int .i32 0]⟩] (mG gl) (λv m=>some (v,m.get 0))=
 (some ((.tuple ⟨[.agg ⟨[.int .u8 5,.int .u8 0,.int .u8 0,.int .i16 0,.int .i32 0]⟩,.int .i64 0]⟩),.cells false gl)):=by kernel_rfl
theorem fG:Y.callK Tryz.prog kp 1 20 65 [.agg ⟨[.int .i64 2,.int .i64 0,.int .i64 2,.bool false,.bool false]⟩,.agg ⟨[.int .u8 0,.int .u8 2,.int .u8 0,.int .i16 0,.int .i32 0]⟩] (mG gl) (λv m=>some (v,m.get 0))=
 (some ((.tuple ⟨[.agg ⟨[.int .u8 215,.int .u8 2,.int .u8 0,.int .i16 0,.int .i32 16]⟩,.int .i64 0]⟩),.cells false gl)):=by kernel_rfl
theorem fH:Y.callK Tryz.prog kp 1 20 65 [.agg ⟨[.int .i64 2,.int .i64 0,.int .i64 4,.bool false,.bool false]⟩,.agg ⟨[.int .u8 0,.int .u8 2,.int .u8 0,.int .i16 0,.int .i32 0]⟩] (mG gl) (λv m=>some (v,m.get 0))=
 (some ((.tuple ⟨[.agg ⟨[.int .u8 215,.int .u8 2,.int .u8 0,.int .i16 0,.int .i32 32]⟩,.int .i64 0]⟩),.cells false gl)):=by kernel_rfl
theorem fI:Y.callK Tryz.prog kp 1 20 65 [.agg ⟨[.int .i64 2,.int .i64 0,.int .i64 8,.bool false,.bool false]⟩,.agg ⟨[.int .u8 0,.int .u8 2,.int .u8 0,.int .i16 0,.int .i32 0]⟩] (mG gl) (λv m=>some (v,m.get 0))=
 (some ((.tuple ⟨[.agg ⟨[.int .u8 215,.int .u8 2,.int .u8 0,.int .i16 0,.int .i32 64]⟩,.int .i64 0]⟩),.cells false gl)):=by kernel_rfl
end
end Go.Proofs.YtgjflcgmieiafaaGreatDoor
namespace Go.Proofs.YtgjflcgmieiafaaGreatDoor
open Go Go.DI Go.DI.Kit Go.Proofs Go.Cmp
noncomputable section
def VC:Value->Bool
 | .int _ _=>true
 | .bool _=>true
 |_=>false
def VD:Value->Bool
 | .agg a=>a.toList.all VC
 |v=>VC v
def VE:Value->Bool
 | .tuple a=>a.toList.all VD
 |v=>VD v
theorem ZH{v:Value}(h:VC v=true):Free v:=by
 cases v<;>simp[VC]at h
 ·exact De _
 ·exact Cn _ _
theorem ZI{v:Value}(h:VD v=true):Free v:=by
 unfold VD at h
 split at h
 ·exact ZJ λx hx=>ZH (List.all_eq_true.1 h x hx)
 ·exact ZH h
theorem ZK{v:Value}(h:VE v=true):Free v:=by
 unfold VE at h
 split at h
 ·exact FD λx hx=>ZI (List.all_eq_true.1 h x hx)
 ·exact ZI h
def oQ:C1:=λf a M=>
 if f=5 then Pj gl (DH Tryz.prog kp 1 200) f a M
 else if f=34\/f=40\/f=41\/f=59\/f=65 then Pj gl (DH Tryz.prog kp 1 20) f a M
 else none
theorem uy(a:List Value)(M:Mem):oQ 5 a M=Pj gl (DH Tryz.prog kp 1 200) 5 a M:=if_pos rfl
theorem CV{f:FuncId}(h:f=34\/f=40\/f=41\/f=59\/f=65)(a:List Value)(M:Mem):oQ f a M=Pj gl (DH Tryz.prog kp 1 20) f a M:=by
 unfold oQ
 rw[if_neg (by rcases h with rfl|rfl|rfl|rfl|rfl<;>decide),if_pos h]
theorem mZ(f:FuncId)(h:f∉ [5,34,40,41,59,65])(a:List Value)(M:Mem):oQ f a M=none:=by
 simp only[List.mem_cons,List.not_mem_nil,or_false,not_or]at h
 unfold oQ
 rw[if_neg h.1,if_neg (by rintro(e|e|e|e|e)<;>simp_all)]
theorem VF{B0:Nat}{f:FuncId}{a:List Value}{M M':Mem}{v:Value}(h:oQ f a M=some (v,M')):EI Tryz.prog B0 1 f a M v M'/\EL M M':=by
 unfold oQ at h
 split at h
 ·exact VG CO (KC Bu hK Ed 200) (λ_ _ _ _ _ h=>Fw 200 _ _ _ _ _ h) h
 split at h
 ·exact VG CO (KC Bu hK Ed 20) (λ_ _ _ _ _ h=>Fw 20 _ _ _ _ _ h) h
 ·cases h
theorem Mk:B5 oQ:=λf a M v M' h=>(VF (B0:=0) h).2
theorem rU{f:FuncId}{a:List Value}{M M':Mem}{v:Value}(h:oQ f a M=some (v,M')):∃fn,Tryz.prog.funcs[f]?=some fn∧fn.body.isNone=false∧(fn.name== "runtime.NumGoroutine")=false:=by
 unfold oQ at h
 split at h
 ·rename_i hf;subst hf;exact hasB (by kernel_rfl)
 split at h
 ·rename_i hf;rcases hf with rfl|rfl|rfl|rfl|rfl<;>exact hasB (by kernel_rfl)
 ·cases h
theorem kf{B0:Nat}:CR Tryz.prog B0 1 oQ:=⟨λf a M v M' h=>(Mk f a M v M' h).size,λf a M v M' h=>(VF h).1,λf a M v M' h=>rU h⟩
theorem CS{f:FuncId}{a:List Value}{v:Value}{kk:Nat}(hf:∀M,oQ f a M=Pj gl (DH Tryz.prog kp 1 kk) f a M)(h:Y.callK Tryz.prog kp 1 kk f a (mG gl) (λv m=>some (v,m.get 0))=some (v, .cells false gl))(ha:a.all VE=true)(hv:VE v=true)(hok:I5 Tryz.prog f v=true):Pure oQ f a v:=λk M hk ht h1 h0=>by
 obtain⟨m,c1,c2⟩:=eu h
 exact⟨_,ew hk ((hf M).trans (ey ht h1 h0 (λx hx=>ZK (List.all_eq_true.1 ha x hx)) c1 (ZK hv) c2)) hok,XH M _⟩
theorem L9(x:B9)(e:Int):I5 Tryz.prog 65 (.tuple ⟨[Ec x, .int .i64 e]⟩)=true:=by
 kernel_rfl
theorem m3:Pure oQ 5 [] (.bool true):=CS (uy _) Ss rfl rfl (by kernel_rfl)
theorem mkC{w i:Value}{x:B9}(h:La w i x):Pure oQ 65 [w,i] (.tuple ⟨[Ec x, .int .i64 0]⟩):=by
 have h52:(65:FuncId)=34\/(65:FuncId)=40\/(65:FuncId)=41\/(65:FuncId)=59\/(65:FuncId)=65:=by decide
 cases h with
 |num h=>
  rcases h with⟨rfl,rfl⟩|⟨rfl,rfl⟩|⟨rfl,rfl⟩
  ·exact CS (CV h52 _) (XI _) rfl rfl (L9 _ _)
  ·exact CS (CV h52 _) (Qv _) rfl rfl (L9 _ _)
  ·exact CS (CV h52 _) (ZL _) rfl rfl (L9 _ _)
 |regs h=>
  rcases h with⟨rfl,rfl,rfl⟩|⟨rfl,rfl,rfl⟩|⟨rfl,rfl,rfl⟩
  ·exact CS (CV h52 _) (Qw) rfl rfl (L9 _ _)
  ·exact CS (CV h52 _) (Qx) rfl rfl (L9 _ _)
  ·exact CS (CV h52 _) (XJ) rfl rfl (L9 _ _)
 |low=>exact CS (CV h52 _) (fB _) rfl rfl (L9 _ _)
 |exit=>exact CS (CV h52 _) (ZM) rfl rfl (L9 _ _)
 |const=>exact CS (CV h52 _) (XK _) rfl rfl (L9 _ _)
 |load h=>
  rcases h with⟨rfl,rfl,rfl⟩|⟨rfl,rfl,rfl⟩|⟨rfl,rfl,rfl⟩|⟨rfl|rfl|rfl|rfl,rfl,rfl⟩
  ·exact CS (CV h52 _) (ZN _) rfl rfl (L9 _ _)
  ·exact CS (CV h52 _) (ZO _) rfl rfl (L9 _ _)
  ·exact CS (CV h52 _) (fC _) rfl rfl (L9 _ _)
  ·exact CS (CV h52 _) (XL _) rfl rfl (L9 _ _)
  ·exact CS (CV h52 _) (XM _) rfl rfl (L9 _ _)
  ·exact CS (CV h52 _) (XN _) rfl rfl (L9 _ _)
  ·exact CS (CV h52 _) (XO _) rfl rfl (L9 _ _)
 |jif h=>
  rcases h with⟨rfl,rfl⟩|⟨rfl,rfl⟩|⟨rfl,rfl⟩|⟨rfl,rfl⟩
  ·exact CS (CV h52 _) (fD _) rfl rfl (L9 _ _)
  ·exact CS (CV h52 _) (fE _) rfl rfl (L9 _ _)
  ·exact CS (CV h52 _) (ZP _) rfl rfl (L9 _ _)
  ·exact CS (CV h52 _) (fF _) rfl rfl (L9 _ _)
 |jifR h=>
  rcases h with rfl|rfl
  ·exact CS (CV h52 _) (XP) rfl rfl (L9 _ _)
  ·exact CS (CV h52 _) (ZQ) rfl rfl (L9 _ _)
 |goto=>exact CS (CV h52 _) (ZR) rfl rfl (L9 _ _)
 |swap h=>
  rcases h with rfl|rfl|rfl
  ·exact CS (CV h52 _) (fG) rfl rfl (L9 _ _)
  ·exact CS (CV h52 _) (fH) rfl rfl (L9 _ _)
  ·exact CS (CV h52 _) (fI) rfl rfl (L9 _ _)
theorem m4:Gu oQ where
 off:=mZ
 mkP h:=⟨0,mkC h⟩
 most h:=by
  rcases h with rfl|rfl|rfl|rfl
  ·exact CS (CV (by decide) _) fJ rfl rfl (by kernel_rfl)
  ·exact CS (CV (by decide) _) fK rfl rfl (by kernel_rfl)
  ·exact CS (CV (by decide) _) fL rfl rfl (by kernel_rfl)
  ·exact CS (CV (by decide) _) fM rfl rfl (by kernel_rfl)
 small n:=by
  have h:=fN n;by_cases hn:n<2147483648
  ·rw[Ef hn]at h;rw[decide_eq_true hn];exact CS (CV (by decide) _) h rfl rfl (by kernel_rfl)
  ·rw[Cg hn]at h;rw[decide_eq_false hn];exact CS (CV (by decide) _) h rfl rfl (by kernel_rfl)
 full h:=by
  rcases h with rfl|rfl|rfl|rfl
  ·exact CS (CV (by decide) _) fO rfl rfl (by kernel_rfl)
  ·exact CS (CV (by decide) _) fP rfl rfl (by kernel_rfl)
  ·exact CS (CV (by decide) _) fQ rfl rfl (by kernel_rfl)
  ·exact CS (CV (by decide) _) fR rfl rfl (by kernel_rfl)
 full2 h:=by
  rcases h with rfl|rfl|rfl|rfl
  ·exact CS (CV (by decide) _) fS rfl rfl (by kernel_rfl)
  ·exact CS (CV (by decide) _) fT rfl rfl (by kernel_rfl)
  ·exact CS (CV (by decide) _) fU rfl rfl (by kernel_rfl)
  ·exact CS (CV (by decide) _) fV rfl rfl (by kernel_rfl)
noncomputable def WI:Code:=match(items S3)[6]? with|some c=>c|none=> .skip
noncomputable def bQ:Code:=match WI with| .block _ (.loop c)=>c|_=> .skip
theorem bR:WI= .block 0 (.loop bQ):=by kernel_rfl
noncomputable def hL(p:Nat)(st:Int)(over:Bool)(blk:BI):H.Hint where
 ix _:=false
 ld _ t off:=cond (Nat.beq t 4) (cond (Nat.beq off 885) (some (.bool over)) none) (cond (Nat.beq t 3) (cond (Nat.beq off 884) (some (.int .i64 st)) none) none)
 cmp op t:=cond (Nat.beq t 3) (BinOp.rec (motive:=λ_=>Option Bool) none none none none none none none none none none none none none (some true) none none none op) none
 ap _:=none
 call f:=cond (Nat.beq f 45) (some (.tuple ⟨[.int .i64 0, .int .i64 0]⟩)) (cond (Nat.beq f 28) (some (.bool true)) none)
 spec _ _ _ _:=False
 blk:=0
 eff f m:=cond (Nat.beq f 28) (m.set p blk) m
 specM f:=cond (Nat.beq f 28) (some λargs m v=>oS 28 args m=some (v,m.set p blk)) none
noncomputable def lO(p:Nat)(st:Int)(over:Bool)(blk:BI)(k:Nat)(t:AF)(M:Mem):Option (H.TT (Ex×AF×Mem)):=
 H.codeT (hL p st over blk) bQ Tryz.prog kp 1 (H.callT (hL p st over blk) Tryz.prog kp 1 20) (λbody _ k t m q=>Y.loopF body k t m q) 84 k t M λe t m=>some ((e,t,m),[],[])
noncomputable def BP(p o:Nat):Value:= .pointer (some ⟨p,o,none⟩)
noncomputable def OY(z p:Nat):List (Nat×Value):= [(4, .int .i64 512),(10,BP z 0),(11, .int .i64 0),(12,BP p 0)]
theorem oh(x:Nat->Value)(z p k:Nat)(st:Int)(blk:BI)(M:Mem):
  Rn (lO p st false blk k (AB 84 (up x (OY z p))) M) ((.normal,AB 84 (up (up x [(34,BP p 0),(35,BP p 0),(36,BP p (Nat.add 0 885)),(37, .bool false),(38, .bool true),(39, .bool true),(40,BP p 0),(41,BP p 0),(42,BP p (Nat.add 0 884)),(43, .int .i64 st),(44, .int .i64 512),(45, .bool true),(46, .bool true),(47,BP p 0),(48, .bool true)]) (OY z p)),M.set p blk),
    [H.ldOk (M.get p) 885 false 1 (.bool false),H.ldOk (M.get p) 884 false 1 (.int .i64 st),B6 Tryz.prog kp .lss 3 (.int .i64 st) (.int .i64 512)=some (.bool true),oS 28 [BP p 0] M=some (.bool true,M.set p blk)]):=⟨by kernel_rfl,by kernel_rfl⟩
theorem oi(x:Nat->Value)(z p k:Nat)(st:Int)(blk:BI)(M:Mem):
  Rn (lO p st true blk k (AB 84 (up x (OY z p))) M) ((.exit 0,AB 84 (up (up x [(34,BP p 0),(35,BP p 0),(36,BP p (Nat.add 0 885)),(37, .bool true),(38, .bool false),(39, .bool false),(40,undef),(41,undef),(42,undef),(43,undef),(44,undef),(45,undef),(46, .bool false)]) (OY z p)),M),
    [H.ldOk (M.get p) 885 false 1 (.bool true)]):=⟨by kernel_rfl,by kernel_rfl⟩
noncomputable def oX:C1:=λf a M=>match oS f a M with
 |some r=>some r
 |none=>di f a M
theorem s4{a:List Value}{M:Mem}{r:Value×Mem}(h:oS 28 a M=some r):oX 28 a M=some r:=by unfold oX;rw[h]
theorem lP{f:FuncId}(h:f≠28)(a:List Value)(M:Mem):oX f a M=di f a M:=by unfold oX;rw[om h]
theorem UJ{f:FuncId}(h:f≠28)(h':f≠45)(a:List Value)(M:Mem):oX f a M=none:=by rw[lP h,iX h']
theorem Q6:B5 oX:=λf a M v M' h=>by
 unfold oX at h
 cases hq:oS f a M with
 |some r=>rw[hq]at h;cases h;exact bS _ _ _ _ _ hq
 |none=>rw[hq]at h;exact iY _ _ _ _ _ h
theorem s5(hW:E3)(B0:Nat):CR Tryz.prog B0 1 oX:=by
 refine⟨λf a M v M' h=>(Q6 f a M v M' h).size,λf a M v M' h=>?_,λf a M v M' h=>?_⟩
 all_goals
  unfold oX at h;cases hq:oS f a M with
  |some r=>rw[hq]at h;cases h;first|exact(lQ B0).ok _ _ _ _ _ hq|exact(lQ B0).body _ _ _ _ _ hq
  |none=>rw[hq]at h;first|exact(bT hW B0).ok _ _ _ _ _ h|exact(bT hW B0).body _ _ _ _ _ h
theorem lR{p:Nat}{st:Int}{over:Bool}{blk:BI}(f:FuncId)(v:Value)(args:List Value)(m:Mem)(hc:(hL p st over blk).call f=some v)(hs:(hL p st over blk).says f args m v):oX f args m=some (v,(hL p st over blk).eff f m):=by
 by_cases e:f=28
 ·subst e;exact s4 hs
 ·have e1:Nat.beq f 28=false:=by cases hb:Nat.beq f 28 with
   |false=>rfl
   |true=>exact absurd (Nat.eq_of_beq_eq_true hb) e
  unfold H.Hint.says at hs;have:(hL p st over blk).specM f=none:=by show cond (Nat.beq f 28) _ _=_;rw[e1];rfl
  rw[this]at hs;exact hs.elim
theorem bU{p:Nat}{st:Int}{over:Bool}{blk:BI}(f:FuncId)(hc:(hL p st over blk).call f=none)(a:List Value)(m:Mem):oX f a m=none:=
 UJ (by rintro rfl;cases hc) (by rintro rfl;cases hc) a m
theorem WJ{mm c t k tm ch n np:Nat}{sp:Option Nat}{port:Int}{r:Int->RV}{at_ st:Int}{over:Bool}:H.ldOk (FO mm c t k tm ch n np sp port (AO r) at_ st over) 885 false 1 (.bool over):=by
 show H.blkNth (FO mm c t k tm ch n np sp port (AO r) at_ st over) 885=some (.bool over)
 kernel_rfl
theorem s7{mm c t k tm ch n np:Nat}{sp:Option Nat}{port:Int}{r:Int->RV}{at_ st:Int}{over:Bool}:H.ldOk (FO mm c t k tm ch n np sp port (AO r) at_ st over) 884 false 1 (.int .i64 st):=by
 show H.blkNth (FO mm c t k tm ch n np sp port (AO r) at_ st over) 884=some (.int .i64 st)
 kernel_rfl
section
variable{p c k t mm tm ch z:Nat}{l:List B9}{pk:List Int}{sp:Option Nat}{port:Int}
abbrev WK(k:Nat):AF->Mem->Option (Ex×AF×Mem):=AI Tryz.prog kp 1 (CG Tryz.prog kp 1 oX 20) (AV Tryz.prog kp 1 (CG Tryz.prog kp 1 oX 20) 84) 84 k bQ
theorem S4{M:Mem}{r r':Int->RV}{at_ st at' st':Nat}{over:Bool}(h:LY M p c k t mm tm ch l pk)(g:M.get p=FO mm c t k tm ch l.length pk.length sp port (AO r) (at_:Int) (st:Int) false)(hst:st<512)(hs:WL l pk sp port r at_ st r' at' st' over)(kk:Nat)(x:Nat->Value):
  ∃x',WK kk (AB 84 (up x (OY z p))) M=some (.normal,AB 84 (up x' (OY z p)),M.set p (FO mm c t k tm ch l.length pk.length sp port (AO r') (at':Int) (st':Int) over)):=by
 obtain⟨q1,q2⟩:=oh x z p kk (st:Int) (FO mm c t k tm ch l.length pk.length sp port (AO r') (at':Int) (st':Int) over) M
 obtain⟨e,t',m',h1,h2⟩:=H.codeO_H (H:=hL p (st:Int) false (FO mm c t k tm ch l.length pk.length sp port (AO r') (at':Int) (st':Int) over)) (o:=oX) (P:=Tryz.prog) (K:=kp) (G:=1) (j:=20) (n:=84) (k:=kk) (c:=bQ) (t:=AB 84 (up x (OY z p))) (m:=M) (g:=λe t m=>(e,t,m)) lR bU q1 q2 (by
  intro q hq;simp only[List.mem_cons,List.not_mem_nil,or_false]at hq;rcases hq with rfl|rfl|rfl|rfl
  ·rw[g];exact WJ
  ·rw[g];exact s7
  ·simp[B6,Ba,Bc];omega
  ·exact iZ h g hs)
 have e1:e=_:=congrArg (λx=>x.1) h2
 have e2:t'=_:=congrArg (λx=>x.2.1) h2
 have e3:m'=_:=congrArg (λx=>x.2.2) h2
 exact⟨_,h1.trans (by rw[e1,e2,e3])⟩
theorem bV{M:Mem}{r:Int->RV}{at_ st:Nat}(g:M.get p=FO mm c t k tm ch l.length pk.length sp port (AO r) (at_:Int) (st:Int) true)(kk:Nat)(x:Nat->Value):
  ∃x',WK kk (AB 84 (up x (OY z p))) M=some (.exit 0,AB 84 (up x' (OY z p)),M):=by
 obtain⟨q1,q2⟩:=oi x z p kk (st:Int) .none M
 obtain⟨e,t',m',h1,h2⟩:=H.codeO_H (H:=hL p (st:Int) true .none) (o:=oX) (P:=Tryz.prog) (K:=kp) (G:=1) (j:=20) (n:=84) (k:=kk) (c:=bQ) (t:=AB 84 (up x (OY z p))) (m:=M) (g:=λe t m=>(e,t,m)) lR bU q1 q2 (by
  intro q hq;obtain rfl:=List.mem_singleton.1 hq;rw[g];exact WJ)
 have e1:e=_:=congrArg (λx=>x.1) h2
 have e2:t'=_:=congrArg (λx=>x.2.1) h2
 have e3:m'=_:=congrArg (λx=>x.2.2) h2
 exact⟨_,h1.trans (by rw[e1,e2,e3])⟩
theorem Q7(hb:∀b∈pk,0<=b/\b<256)(hpk:pk.length<=1000000)(hport:0<=port/\port<4294967296)(hl:l.length<=512){n:Nat}{a:Nat}{r rf:Int->RV}{pc:Nat}{v:Int}
  (hr:JX l pk port n a r pc rf) (hx:l[pc]?=some DS) (hv:rf 0= .num v):∀{M:Mem} {st:Nat} (kk j:Nat) (x:Nat->Value),n+st<512->n+2<=j->Ge r->
  LY M p c k t mm tm ch l pk->M.get p=FO mm c t k tm ch l.length pk.length sp port (AO r) (a:Int) (st:Int) false->
  Ge rf/\∃x',BT (WK kk) j (AB 84 (up x (OY z p))) M=some (.exit 0,AB 84 (up x' (OY z p)),M.set p (FO mm c t k tm ch l.length pk.length sp port (AO rf) (pc:Int) ((st+n+1:Nat):Int) true)):=by
 induction hr with
 |nil=>
  rename_i a r;intro M st kk j x hst hj hR hM hg;refine⟨hR,?_⟩;obtain⟨j,rfl⟩:∃j',j=j'+2:=⟨j - 2,by omega⟩;obtain⟨x1,h1⟩:=S4 (z:=z) hM hg (by omega) (UK (sp:=sp) (port:=port) (st:=st) (by omega) hx hv) kk x;obtain⟨x2,h2⟩:=bV (z:=z) (p:=p) (c:=c) (k:=k) (t:=t) (mm:=mm) (tm:=tm) (ch:=ch) (l:=l) (pk:=pk) (sp:=sp) (port:=port) (r:=r) (at_:=a) (st:=st+1) (M:=M.set p (FO mm c t k tm ch l.length pk.length sp port (AO r) (a:Int) ((st+1:Nat):Int) true)) (Mem.get_set_same ..) kk x1;refine⟨x2,?_⟩;simp only[BT,h1,h2]
 |cons hs hr ih=>
  rename_i n a a1 q r r1 s;intro M st kk j x hst hj hR hM hg;obtain⟨j,rfl⟩:∃j',j=j'+1:=⟨j - 1,by omega⟩;have hq:q<512:=by have:=(List.getElem?_eq_some_iff.1 hx).1;omega
  have hle:=hr.le;have ha:a+1<=a1:=by have:=(JX.cons hs .nil).le;omega
  obtain⟨s1,hR1⟩:=UL (sp:=sp) (st:=st) hR hb hpk hport (by omega) (by omega) (by omega) hs;obtain⟨x1,h1⟩:=S4 (z:=z) hM hg (by omega) s1 kk x;obtain⟨g1,x2,h2⟩:=ih hx hv (M:=M.set p (FO mm c t k tm ch l.length pk.length sp port (AO r1) (a1:Int) ((st+1:Nat):Int) false)) (st:=st+1) kk j x1 (by omega) (by omega) hR1 (hM.set _) (Mem.get_set_same ..);refine⟨g1,x2,?_⟩;simp only[BT,h1,h2,Mem.set_set];rw[show st+1+n+1=st+(n+1)+1 by omega]
end
noncomputable def hT(P:Option (List Value)):H.Hint where
 ix _:=false
 ld _ _ _:=none
 cmp _ _:=none
 ap t:=cond (Nat.beq t 23) P none
 call f:=cond (Nat.beq f 45) (some (.tuple ⟨[.int .i64 0, .int .i64 0]⟩)) (cond (Nat.beq f 28) (some (.bool true)) none)
 spec _ _ _ _:=False
 blk:=0
 specM f:=cond (Nat.beq f 28) (some never) none
noncomputable def bW(P:Option (List Value))(t:AF)(M:Mem):Option (H.TT (Ex×Option (List Value)×Mem)):=
 H.codeT (hT P) (DM ((items S3).drop 7)) Tryz.prog kp 1 (H.callT (hT P) Tryz.prog kp 1 20) (λbody _ k t m q=>Y.loopF body k t m q) 84 600 t M λe t m=>some ((e,DK Tryz.prog t m Tryz.f15.results.toList,m),[],[])
noncomputable def JB(pc v st:Int)(pv:Value):List Value:= [.int .i64 0, .int .i64 pc, .int .u64 v, .int .i64 st,pv]
noncomputable def ie(L P:List Value)(n np:Nat)(port:Int)(z:Nat)(regs:List Value)(at_ st v:Int):List BI:= [.cells true (IU (A6 1 n)), .cells true (MD port), .cells true (JB at_ v st (Gp (z+15) np (some 1))),
 .cells true (IU (A6 1 n)), .cells true (MD port),GR,GR, .cells true P,FO (z+9) (z+11) (z+5) (z+7) (z+12) (z+13) n np (some 1) port regs at_ st true,GR,GR, .cells true L,GR,GR,GR, .cells true P, .cells true (JB at_ v st (Gp (z+15) np (some 1)))]
noncomputable def S5(L:List Value)(n:Nat)(port:Int)(z:Nat)(regs:List Value)(at_ st v:Int):List BI:= [.cells true (IU (A6 1 n)), .cells true (MD port), .cells true (JB at_ v st (Gp (z+13) 0 none)),
 .cells true (IU (A6 1 n)), .cells true (MD port),GR,GR,FO (z+8) (z+10) (z+5) (z+6) (z+11) (z+12) n 0 none port regs at_ st true,GR,GR, .cells true L,GR,GR,GR, .cells true (JB at_ v st (Gp (z+13) 0 none))]
theorem oo(x:Nat->Value)(o1 o2:Bool)(L P:List Value)(n np:Nat)(port:Int)(rf:Int->RV)(pc st:Int):
  Rn (bW (some P) (AB 84 (up x (OY 8 14))) ((mS gl (OV o1 o2 L P n++o6 L P n np port 6 (AO Dn) 0 0 false)).set 14 (FO 15 17 11 13 18 19 n np (some 1) port (AO rf) pc st true))) ((.ret,some [.agg ⟨JB pc (nv (rf 0)) st (Gp 21 np (some 1))⟩, .int .i64 0],mS gl (OV o1 o2 L P n++ie L P n np port 6 (AO rf) pc st (nv (rf 0)))),
    [H.apOk (.cells true P) 0 1 1 np P]):=⟨by kernel_rfl,by kernel_rfl⟩
theorem oq(x:Nat->Value)(o1 o2:Bool)(L:List Value)(n:Nat)(port:Int)(rf:Int->RV)(pc st:Int):
  Rn (bW none (AB 84 (up x (OY 7 12))) ((mS gl (OW o1 o2 L n++YE L n port 5 (AO Dn) 0 0 false)).set 12 (FO 13 15 10 11 16 17 n 0 none port (AO rf) pc st true))) ((.ret,some [.agg ⟨JB pc (nv (rf 0)) st (Gp 18 0 none)⟩, .int .i64 0],mS gl (OW o1 o2 L n++S5 L n port 5 (AO rf) pc st (nv (rf 0)))),[]):=⟨by kernel_rfl,by kernel_rfl⟩
theorem ou(x:Nat->Value)(o1:Bool)(L:List Value)(n:Nat)(port:Int)(rf:Int->RV)(pc st:Int):
  Rn (bW none (AB 84 (up x (OY 6 11))) ((mS gl (OX o1 L n++YE L n port 4 (AO Dn) 0 0 false)).set 11 (FO 12 14 9 10 15 16 n 0 none port (AO rf) pc st true))) ((.ret,some [.agg ⟨JB pc (nv (rf 0)) st (Gp 17 0 none)⟩, .int .i64 0],mS gl (OX o1 L n++S5 L n port 4 (AO rf) pc st (nv (rf 0)))),[]):=⟨by kernel_rfl,by kernel_rfl⟩
end
end Go.Proofs.YtgjflcgmieiafaaGreatDoor
