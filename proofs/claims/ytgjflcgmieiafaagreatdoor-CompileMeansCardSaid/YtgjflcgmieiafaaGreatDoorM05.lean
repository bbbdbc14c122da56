/- CompileMeans answers true: the code of any table, run with any packet by any port, says what the table says. Conditions: those of the given row and its card (the variable insn.sizes is laid as its initialiser says). -/
import Derived.Test.YtgjflcgmieiafaaGreatDoorM04
import Derived.Test.YtgjflcgmieiafaaGreatDoorM03
set_option linter.all false
set_option linter.unusedVariables false
set_option linter.unusedSimpArgs false
namespace Go.Cmp
open Go Go.DI
variable{pk:List Int}{port:Int}{rows suf suf' sF E:List BA}{r r':Int->RV}
theorem Zf(t:A8)(n:Nat):∀x∈AO (FZ t n),n<x/\x<=Eb t n:=by
 intro x hx
 unfold FZ at hx
 unfold Eb
 by_cases h1:t.kind=1
 ·rw[if_pos h1]at hx;simp[AO,B8,ins]at hx
 ·rw[if_neg h1]at hx;by_cases h2:t.kind=2
  ·rw[if_pos h2]at hx;simp[AO,B8,ins]at hx
  ·rw[if_neg h2]at hx;rw[if_neg (by omega)];by_cases h3:t.kind=3
   ·rw[if_pos h3]at hx;rw[if_pos h3];rw[BQ,Fz]at hx;simp[AO,B8,ins]at hx;omega
   ·rw[if_neg h3]at hx;rw[if_neg h3];rw[BQ,BQ,BQ,Fz]at hx;simp only[List.mem_append]at hx;rcases hx with((hx|hx)|hx)|hx
    ·simp at hx;omega
    ·simp[AO,B8,ins]at hx
    ·have:=HH t (n+1) (n+3) 16 0 (n+4) x hx;omega
    ·simp[AO,B8,lab]at hx;omega
theorem Ps(t:A8)(n:Nat):n+2<=Eb t n:=by unfold Eb;split<;>(try split)<;>omega
theorem Xa(t:A8)(fail n:Nat):∀x∈AO (F0 t fail n),n<x/\x<=Eb t n:=by
 intro x hx
 have hg:=Ps t n
 unfold F0 at hx
 rw[BQ,BQ,BQ,BQ,Ku,JY,Mz]at hx
 simp only[List.mem_append]at hx
 rcases hx with(((hx|hx)|hx)|hx)|hx
 ·simp[AO,B8,A9,ins]at hx
 ·exact Zf t n x hx
 ·simp at hx
 ·simp at hx
 ·simp at hx;omega
theorem H6(fail:Nat):∀(ts:List A8) (n:Nat),n<=DL ts n/\∀x∈AO (C7 fail ts n),n<x/\x<=DL ts n
 | [],n=>⟨Nat.le_refl _,λx hx=>by simp[C7,AO]at hx⟩
 |t::ts,n=>by
  obtain⟨h1,h2⟩:=H6 fail ts (Eb t n);have hg:=Ps t n;refine⟨by simp only[DL];omega,λx hx=>?_⟩;simp only[C7,BQ,List.mem_append]at hx;simp only[DL];rcases hx with hx|hx
  ·have:=Xa t fail n x hx;omega
  ·have:=h2 x hx;omega
theorem RK{f:Nat}{mid:List BA}(hbd:B6 rows<=20000)(hb:EE pk)(hport:0<=port)(hs:suf=mid++lab (f+1)::sF)(hf:f+1∉AO sF):
  ∀(ts:List A8) (n:Nat) (r:Int->RV),(∀t∈ts,Jz t)->(∀x∈AO suf,x<=n\/DL ts n<x)->Cu r->
  ∃r',Rn rows pk port (C7 (f+1) ts n++suf) r (if ts.all (λt=>BN t pk port)=true then suf else sF) r'/\Cu r'
 | [],n,r,_,_,hR=>⟨r,by simpa[C7]using Rn.refl,hR⟩
 |t::ts,n,r,hW,hl,hR=>by
  obtain⟨hg1,hg2⟩:=H6 (f+1) ts (Eb t n);have hg:=Ps t n;simp only[DL]at hl
  obtain⟨r1,p1,q1⟩:=gL (rows:=rows) (pk:=pk) (port:=port) (t:=t) (n:=n) (suf:=C7 (f+1) ts (Eb t n)++suf) (mid:=C7 (f+1) ts (Eb t n)++mid) (sF:=sF) hbd (hW t (by simp)) hb hport (by rw[hs];simp) hf
   (λx hx=>by
    rw[BQ]at hx;rcases List.mem_append.1 hx with hx|hx
    ·have:=hg2 x hx;omega
    ·have:=hl x hx;omega) hR
  have e:C7 (f+1) (t::ts) n++suf=F0 t (f+1) n++(C7 (f+1) ts (Eb t n)++suf):=by simp[C7]
  rw[e];by_cases h:BN t pk port=true
  ·rw[if_pos h]at p1;obtain⟨r2,p2,q2⟩:=RK hbd hb hport hs hf ts (Eb t n) r1 (λx hx=>hW x (by simp[hx])) (λx hx=>by have:=hl x hx;omega) q1;refine⟨r2,p1.trans ?_,q2⟩;rw[List.all_cons,h,Bool.true_and];exact p2
  ·rw[if_neg h]at p1;refine⟨r1,?_,q1⟩;have h':BN t pk port=false:=by simpa using h
   rw[List.all_cons,h',Bool.false_and];exact p1
def Fin(rows:List BA)(pk:List Int)(port:Int)(suf:List BA)(r:Int->RV)(v:Int):Prop:=
 ∀pre,rows=pre++suf->∃pc n r',JX (Bh rows) pk port n (B6 pre) r pc r'/\(Bh rows)[pc]?=some D0/\r' 0= .num v
theorem Fin.of{v:Int}(h:Rn rows pk port suf r suf' r')(k:Fin rows pk port suf' r' v):Fin rows pk port suf r v:=λpre hp=>by
 obtain⟨p1,n1,e1,h1⟩:=h pre hp
 obtain⟨pc,n2,r2,h2,h3,h4⟩:=k p1 e1
 exact⟨pc,_,r2,h1.trans h2,h3,h4⟩
theorem Zg{v:Int}(h:r 0= .num v):Fin rows pk port (ins D0 0::suf) r v:=λpre hp=>by
 have a1:=EP pre suf D0 0
 rw[if_neg (Nat.lt_irrefl 0),←hp]at a1
 exact⟨B6 pre,0,r, .nil,a1,h⟩
theorem V3{v:Int}(h0:0<=v)(h1:v<4294967296):Fin rows pk port (Eg v++suf) r v:=by
 refine Fin.of (suf':=ins D0 0::suf) (oU (n:=Kl v)) (Zg ?_)
 rw[C8,Po]
 congr 1
 omega
def C5(pk:List Int)(port:Int):List BB->Int
 | []=>0
 |r::l=>if r.tests.all (λt=>BN t pk port)=true then r.verdict else C5 pk port l
structure KA(r:BB):Prop where
 tests:∀t∈r.tests,Jz t
 v0:0<=r.verdict
 v1:r.verdict<4294967296
theorem Kv(r0:BB)(n:Nat)(suf:List BA):HB r0 n++suf=A9++((if r0.tests= []then [ins (DU 5 2 0) (n+1)]else [])++(C7 (n+1) r0.tests (n+1)++(Eg r0.verdict++lab (n+1)::suf))):=by simp[HB]
theorem gM{r0:BB}{n:Nat}(hbd:B6 rows<=20000)(hb:EE pk)(hport:0<=port)(hW:KA r0)(hl:∀x∈AO suf,DL r0.tests (n+1)<x)(hR:Cu r):
  (r0.tests.all (λt=>BN t pk port)=true->Fin rows pk port (HB r0 n++suf) r r0.verdict)/\(¬r0.tests.all (λt=>BN t pk port)=true->∃r',Rn rows pk port (HB r0 n++suf) r suf r'/\Cu r'):=by
 have hge:=(H6 (n+1) r0.tests (n+1)).1
 have hf:n+1∉AO suf:=λhx=>by have:=hl _ hx;omega
 obtain⟨T,hT⟩:∃T,C7 (n+1) r0.tests (n+1)++(Eg r0.verdict++lab (n+1)::suf)=T:=⟨_,rfl⟩
 rw[Kv,hT]
 obtain⟨r1,p1,q1,q2,_⟩:=HF (rows:=rows) (pk:=pk) (port:=port) (r:=r) (suf:=(if r0.tests= []then [ins (DU 5 2 0) (n+1)]else [])++T) hR
 have p2:Rn rows pk port ((if r0.tests= []then [ins (DU 5 2 0) (n+1)]else [])++T) r1 T r1:=by
  split
  ·exact Pp (op:=5) (d:=2) (n:=0) (l:=n) (a:=0) (.inr (.inl rfl)) ⟨by decide,by decide⟩ ⟨by decide,by decide⟩ q2 (by simp[DJ])
  ·exact Rn.refl
 obtain⟨r2,p3,q3⟩:=RK (rows:=rows) (pk:=pk) (port:=port) (f:=n) (suf:=Eg r0.verdict++lab (n+1)::suf) (mid:=Eg r0.verdict) (sF:=suf) hbd hb hport rfl hf r0.tests (n+1) r1 hW.tests
  (λx hx=>by
   rw[BQ,Dj]at hx;rcases List.mem_append.1 hx with hx|hx
   ·simp[AO,B8,Eg,ins]at hx
   ·rcases List.mem_cons.1 hx with hx|hx
    ·omega
    ·have:=hl x hx;omega) q1
 rw[hT]at p3
 constructor
 ·intro h;rw[if_pos h]at p3;exact Fin.of ((p1.trans p2).trans p3) (V3 hW.v0 hW.v1)
 ·intro h;rw[if_neg h]at p3;exact⟨r2,(p1.trans p2).trans p3,q3⟩
theorem NA:∀(l:List BB) (n:Nat),∀x∈AO (CT l n),n<x
 | [],_,x,h=>by simp[CT,AO]at h
 |r0::l,n,x,h=>by
  obtain⟨h1,h2⟩:=H6 (n+1) r0.tests (n+1);simp only[CT,BQ,List.mem_append]at h;rcases h with h|h
  ·have e:=Kv r0 n [];rw[List.append_nil]at e;rw[e,BQ,BQ,BQ,BQ]at h;simp only[List.mem_append]at h;rcases h with h|h|h|h|h
   ·simp[AO,B8,A9,ins]at h
   ·split at h<;>simp[AO,B8,ins]at h
   ·have:=h2 x h;omega
   ·simp[AO,B8,Eg,ins]at h
   ·simp[AO,B8,lab]at h;omega
  ·have:=NA l (DL r0.tests (n+1)) x h;omega
theorem Om(hbd:B6 rows<=20000)(hb:EE pk)(hport:0<=port):∀(l:List BB) (n:Nat) (r:Int->RV),(∀x∈l,KA x)->Cu r->Fin rows pk port (CT l n++(A9++Eg 0)) r (C5 pk port l)
 | [],n,r,_,hR=>by
  obtain⟨r1,p1,_⟩:=HF (rows:=rows) (pk:=pk) (port:=port) (r:=r) (suf:=Eg 0) hR;have:=V3 (rows:=rows) (pk:=pk) (port:=port) (r:=r1) (suf:= []) (v:=0) (by decide) (by decide);rw[List.append_nil]at this;exact Fin.of p1 this
 |r0::l,n,r,hW,hR=>by
  have e:CT (r0::l) n++(A9++Eg 0)=HB r0 n++(CT l (DL r0.tests (n+1))++(A9++Eg 0)):=by simp[CT]
  have hn:∀x∈AO (CT l (DL r0.tests (n+1))++(A9++Eg 0)),DL r0.tests (n+1)<x:=λx hx=>by
   rw[BQ]at hx;rcases List.mem_append.1 hx with hx|hx
   ·exact NA l _ x hx
   ·simp[AO,B8,A9,Eg,ins]at hx
  obtain⟨k1,k2⟩:=gM (rows:=rows) (pk:=pk) (port:=port) (r0:=r0) (n:=n) (r:=r) (suf:=CT l (DL r0.tests (n+1))++(A9++Eg 0)) hbd hb hport (hW r0 (by simp)) hn hR;rw[e];by_cases h:r0.tests.all (λt=>BN t pk port)=true
  ·rw[C5,if_pos h];exact k1 h
  ·obtain⟨r1,p1,q1⟩:=k2 h;rw[C5,if_neg h];exact Fin.of p1 (Om hbd hb hport l (DL r0.tests (n+1)) r1 (λx hx=>hW x (by simp[hx])) q1)
def Du:Int->RV:=λi=>if i=1 then .ctx else .none
theorem RL{l:List BB}(hW:∀x∈l,KA x)(hbd:B6 (BU l)<=20000)(hb:EE pk)(hport:0<=port):
  ∃pc n r',JX (Bh (BU l)) pk port n 0 Du pc r'/\(Bh (BU l))[pc]?=some D0/\r' 0= .num (C5 pk port l)/\n< (Bh (BU l)).length:=by
 have key:Fin (BU l) pk port (BU l) Du (C5 pk port l):=by
  have e:BU l=ins (Bk 11 6 1) 0::ins (BL 8 7 1 8) 0::(CT l 0++(A9++Eg 0)):=by simp[BU]
  obtain⟨rows,hr⟩:∃rows,BU l=rows:=⟨_,rfl⟩;rw[hr]at hbd;rw[show Fin (BU l) pk port (BU l) Du (C5 pk port l)=Fin rows pk port (ins (Bk 11 6 1) 0::ins (BL 8 7 1 8) 0::(CT l 0++(A9++Eg 0))) Du (C5 pk port l)by rw[←e,hr]];have h1:=VX (rows:=rows) (pk:=pk) (port:=port) (r:=Du) (d:=6) (s:=1) (suf:=ins (BL 8 7 1 8) 0::(CT l 0++(A9++Eg 0))) ⟨by decide,by decide⟩ ⟨by decide,by decide⟩ (by show RV.ctx≠RV.none;intro h;cases h);have h2:=oY (rows:=rows) (pk:=pk) (port:=port) (r:=CZ Du 6 (Du 1)) (d:=7) (s:=1) (suf:=CT l 0++(A9++Eg 0)) ⟨by decide,by decide⟩ ⟨by decide,by decide⟩ rfl;exact Fin.of (h1.trans h2) (Om hbd hb hport l 0 _ hW ⟨rfl,rfl⟩)
 obtain⟨pc,n,r',h1,h2,h3⟩:=key [] rfl
 have hle:=h1.le
 have hlt:pc< (Bh (BU l)).length:=(List.getElem?_eq_some_iff.1 h2).1
 refine⟨pc,n,r',h1,h2,h3,?_⟩
 have:B6 ([]:List BA)=0:=rfl
 omega
end Go.Cmp
namespace Go.Cmp
open Go Go.DI
def u64(a:Int):Prop:=0<=a/\a<18446744073709551616
theorem Fx{n:Nat}(h:n<18446744073709551616):(BitVec.ofInt 64 (n:Int)).toNat=n:=by
 rw[BitVec.toNat_ofInt]
 show((n:Int) % 18446744073709551616).toNat=n
 omega
theorem P9{a b:Int}(ha:u64 a)(hb:u64 b):IntKind.wrap .u64 (Int.ofNat (BitVec.toNat (HAnd.hAnd (BitVec.ofInt 64 a) (BitVec.ofInt 64 b))))=Cz a b:=by
 obtain⟨n,rfl⟩:=Int.eq_ofNat_of_zero_le ha.1
 obtain⟨m,rfl⟩:=Int.eq_ofNat_of_zero_le hb.1
 have h1:=ha.2
 have h2:=hb.2
 have e:BitVec.toNat (HAnd.hAnd (BitVec.ofInt 64 (n:Int)) (BitVec.ofInt 64 (m:Int)))=n &&& m:=by
  rw[BitVec.toNat_and,Fx (by omega),Fx (by omega)]
 rw[e]
 have hle:=Nat.and_le_left (n:=n) (m:=m)
 show IntKind.wrap .u64 ((n &&& m:Nat):Int)=Cz _ _
 rw[IntWalk.u64_in _ (by omega)]
 unfold Cz
 rw[Int.toNat_natCast,Int.toNat_natCast]
theorem VO(n b:Nat)(hb:b<256):(n <<<8)|||b=n*256+b:=by
 rw[←Nat.shiftLeft_add_eq_or_of_lt (i:=8) (by simpa using hb),Nat.shiftLeft_eq]
def Fc(pk:List Int)(port:Int):List BB->Nat->Int
 | [],_=> -1
 |r::l,i=>if r.tests.all (λt=>BN t pk port)=true then(i:Int)else Fc pk port l (i+1)
end Go.Cmp
namespace Go.Cmp
open Go Go.DI
theorem ZM{l:List Int}{j:Nat}{b:Int}(h:l[j]?=some b):FT (l.take (j+1))=256*FT (l.take j)+b:=by
 rw[List.take_add_one,h]
 unfold FT
 rw[List.foldl_append]
 rfl
theorem fR{pk:List Int}{at_ z j:Nat}(hj:j<z):(cut pk at_ z)[j]?=pk[at_+j]?:=by
 unfold cut
 rw[List.getElem?_take_of_lt hj,List.getElem?_drop]
end Go.Cmp
namespace Go.DI
namespace Kit
theorem Uq{P:Program}{G:Nat}{o:CX}(h:∀f a m v m',o f a m=some (v,m')->∃R:Ed,(∀B0,CU P B0 G R)/\B9 R/\R f a m=some (v,m')):(∀B0,CU P B0 G o)/\B9 o:=by
 refine⟨λB0=>⟨λf a m v m' hq=>?_,λf a m v m' hq=>?_,λf a m v m' hq=>?_⟩,λf a m v m' hq=>?_⟩
 ·obtain⟨R,h1,h2,h3⟩:=h _ _ _ _ _ hq;exact(h1 B0).size _ _ _ _ _ h3
 ·obtain⟨R,h1,h2,h3⟩:=h _ _ _ _ _ hq;exact(h1 B0).ok _ _ _ _ _ h3
 ·obtain⟨R,h1,h2,h3⟩:=h _ _ _ _ _ hq;exact(h1 B0).body _ _ _ _ _ h3
 ·obtain⟨R,h1,h2,h3⟩:=h _ _ _ _ _ hq;exact h2 _ _ _ _ _ h3
end Kit
end Go.DI
namespace Go.Proofs.YtgjflcgmieiafaaGreatDoor
open Go Go.DI Go.DI.Kit Go.Proofs Go.Cmp
noncomputable section
theorem Bw:Tryz.prog.follows .mixedOrders=true:=by kernel_rfl
def o0:CX:=λ_ _ _=>none
theorem dc:(∀B0,CU Tryz.prog B0 1 o0)/\B9 o0:=Uq λf a m v m' h=>by cases h
structure zP(a:List Value):Prop where
 ex:∃b sp n c off z,a= [.slice (some ⟨b,0,sp⟩) n c, .int .i64 off, .int .i64 z]/\RA z/\0<=off/\off+z<=n/\n<=1000000
open Classical in
def oW:CX:=λf a m=>if f=101/\zP a then some (.int .i64 0,m)else none
theorem wrap_i64{x:Int}(h: -9223372036854775808<=x/\x<=9223372036854775807):IntKind.wrap .i64 x=x:=IntWalk.i64_in _ h
theorem Ur{a:List Value}(h:zP a)(M:Mem):CJ Tryz.prog kp 1 o0 20 101 a M=some (.int .i64 0,M):=by
 obtain⟨b,sp,n,c,off,z,rfl,hz,h0,h1,h2⟩:=h.ex
 have hzb:1<=z/\z<=8:=by rcases hz with h|h|h|h<;>omega
 have ht:=cT b sp n c off M z hz
 obtain⟨v,m',q1,q2⟩:=H.callO_H (H:=hW) (o:=o0) (λf v args m h=>by cases h) (λf _ a m=>rfl) (g:=λv m=>(v,m)) (b:=(.int .i64 0,M)) (qs:=_) (by rw[ht];rfl) (by rw[ht];rfl) (by
  intro p hp;simp only[List.mem_cons,List.not_mem_nil,or_false]at hp;rcases hp with rfl|rfl
  ·simp[BY,BX,B1];omega
  ·have e:IntKind.wrap .i64 (Int.sub (Int.ofNat n) z)=(n:Int) - z:=wrap_i64 (by show _<=(n:Int) - z/\(n:Int) - z<=_;omega);rw[e];simp[BY,BX,B1];omega)
 rw[q1]
 simp only[Prod.mk.injEq]at q2
 rw[q2.1,q2.2]
theorem de:(∀B0,CU Tryz.prog B0 1 oW)/\B9 oW:=Uq λf a m v m' h=>by
 unfold oW at h
 split at h<;>simp at h
 rename_i hc
 obtain⟨rfl,rfl⟩:=h
 obtain⟨rfl,hw⟩:=hc
 exact⟨CJ Tryz.prog kp 1 o0 20,λB0=>Cr Bw hK Ee (dc.1 B0) dc.2 20,CL dc.2 20,Ur hw m⟩
theorem wrap_u64{x:Int}(h:u64 x):IntKind.wrap .u64 x=x:=IntWalk.u64_in _ (by have:=h.1;have:=h.2;omega)
theorem zQ{a:Int}(h0:0<=a)(h1:a<72057594037927936):OJ a 8=256*a:=by
 show IntKind.wrap .u64 (a*2 ^ (min (8:Int).toNat 64))=_
 rw[show a*2 ^ (min (8:Int).toNat 64)=256*a by show a*2 ^ 8=_;omega]
 exact wrap_u64 ⟨by omega,by omega⟩
theorem Us{a b:Nat}(ha:a<18446744073709551616)(hb:b<18446744073709551616):kH (a:Int) (b:Int)=((a|||b:Nat):Int):=by
 have h:(a|||b)<2 ^ 64:=Nat.or_lt_two_pow (by omega) (by omega)
 have e:BitVec.toNat (HOr.hOr (BitVec.ofInt 64 (a:Int)) (BitVec.ofInt 64 (b:Int)))=a|||b:=by
  rw[BitVec.toNat_or,Fx ha,Fx hb]
 show IntKind.wrap .u64 ((BitVec.toNat (HOr.hOr (BitVec.ofInt 64 (a:Int)) (BitVec.ofInt 64 (b:Int))):Nat):Int)=_
 rw[e]
 exact wrap_u64 ⟨by omega,by omega⟩
theorem or8{a b:Int}(h0:0<=a)(h1:a<72057594037927936)(hb:0<=b)(hb1:b<256):kH (OJ a 8) (IntKind.wrap .u64 b)=256*a+b:=by
 rw[zQ h0 h1,wrap_u64 ⟨hb,by omega⟩]
 obtain⟨n,rfl⟩:=Int.eq_ofNat_of_zero_le h0
 obtain⟨k,rfl⟩:=Int.eq_ofNat_of_zero_le hb
 rw[show(256:Int)*(n:Int)=((n*256:Nat):Int)by omega,Us (by omega) (by omega)]
 have:=VO n k (by omega)
 rw[Nat.shiftLeft_eq]at this
 rw[show n*256=n*2 ^ 8 by omega,this]
 omega
theorem dg{pk:List Int}{a z:Nat}(h:a<pk.length):cut pk a (z+1)=pk.getD a 0::cut pk (a+1) z:=by
 unfold cut
 rw[List.drop_eq_getElem_cons h,List.take_succ_cons,List.getD_eq_getElem?_getD,List.getElem?_eq_getElem h]
 rfl
theorem HG:∀(l:List Int),(∀b∈l,0<=b/\b<256)->0<=Eh l/\Eh l<256 ^ l.length
 | [],_=>by simp[Eh]
 |b::l,h=>by
  have ih:=HG l λx hx=>h x (List.mem_cons_of_mem _ hx);have hb:=h b (List.mem_cons_self ..);have e:Eh (b::l)=b+256*Eh l:=rfl;rw[e,List.length_cons,Int.pow_succ];omega
theorem XH{pk:List Int}{a z:Nat}(hr:∀b∈pk,0<=b/\b<256)(h:a+z<=pk.length):0<=Eh (cut pk a z)/\Eh (cut pk a z)<256 ^ z:=by
 have:=HG (cut pk a z) λb hb=>hr b (List.mem_of_mem_drop (List.mem_of_mem_take hb))
 have hl:(cut pk a z).length=z:=by unfold cut;rw[List.length_take,List.length_drop];omega
 rw[hl]at this
 exact this
def gP(pk:List Int):Nat->Int:=λi=>pk.getD i 0
section
variable{x:BH}{n:Nat}{off z:Int}{pk:List Int}
theorem JR.ix(h:JR x n off z pk){j:Nat}(hj:(j:Int)<z):wO off j=off+j:=by
 have:=h.fits;have:=h.off0;have:=h.small
 exact wrap_i64 (by show _<=off+(j:Int)/\off+(j:Int)<=_;omega)
theorem JR.ad(h:JR x n off z pk){j:Nat}(hj:(j:Int)<z):uv off j=off.toNat+j:=by
 have:=h.off0
 unfold uv
 rw[h.ix hj]
 show 0+(off+(j:Int)).toNat*1=_
 omega
theorem JR.nG(h:JR x n off z pk){j k:Nat}(hj:(j:Int)<z)(hk:j+k+1=z.toNat)(hk7:k<=7):nG (gP pk) off (Eh (cut pk (off.toNat+(j+1)) k)) j=Eh (cut pk (off.toNat+j) (k+1)):=by
 have h1:=h.fits;have h2:=h.off0
 have hlt:off.toNat+j<pk.length:=by omega
 have hb:=XH (a:=off.toNat+(j+1)) (z:=k) h.rng (by omega)
 have hbb:Eh (cut pk (off.toNat+(j+1)) k)<72057594037927936:=by
  have:(256:Int) ^ k<=72057594037927936:=by
   have hc:k=0\/k=1\/k=2\/k=3\/k=4\/k=5\/k=6\/k=7:=by omega
   rcases hc with rfl|rfl|rfl|rfl|rfl|rfl|rfl|rfl<;>decide
  omega
 have hg:gP pk (off.toNat+j)=pk.getD (off.toNat+j) 0:=rfl
 have hgr:=h.rng (pk.getD (off.toNat+j) 0) (by rw[List.getD_eq_getElem?_getD,List.getElem?_eq_getElem hlt];exact List.getElem_mem hlt)
 unfold Go.Proofs.YtgjflcgmieiafaaGreatDoor.nG
 rw[h.ad hj,hg,or8 hb.1 hbb hgr.1 hgr.2,dg hlt]
 show _=pk.getD (off.toNat+j) 0+256*Eh (cut pk (off.toNat+j+1) k)
 rw[Nat.add_assoc];omega
theorem JR.pG{M:Mem}{b:Nat}(h:JR (M.get b) n off z pk){j:Nat}(hj:(j:Int)<z):∀p∈pG M b n (gP pk) off j,p:=by
 have h1:=h.fits;have h2:=h.off0;have h3:=h.len
 intro p hp
 rcases List.mem_cons.1 hp with rfl|hp
 ·rw[h.ix hj];omega
 ·obtain rfl:=List.mem_singleton.1 hp;rw[h.ad hj];obtain⟨own,hb⟩:=h.blk;show H.blkNth (M.get b) _=_;rw[hb];show(AH pk)[off.toNat+j]?=_;have hlt:off.toNat+j<pk.length:=by omega
  unfold AH gP;rw[List.getElem?_map,List.getElem?_eq_getElem hlt,List.getD_eq_getElem?_getD,List.getElem?_eq_getElem hlt];rfl
theorem lF{M:Mem}{b c:Nat}{sp:Option Nat}(h:JR (M.get b) n off z pk):CJ Tryz.prog kp 1 oW 20 80 [.slice (some ⟨b,0,sp⟩) n c, .int .i64 off, .int .i64 z] M=some (.tuple ⟨[.int .u64 (Eh (cut pk off.toNat z.toNat)), .int .i64 0]⟩,M):=by
 have hW:zP [.slice (some ⟨b,0,sp⟩) n c, .int .i64 off, .int .i64 z]:=⟨b,sp,n,c,off,z,rfl,h.sz,h.off0,by have:=h.fits;have:=h.len;omega,by have:=h.small;have:=h.len;omega⟩
 have hp0:uw M b sp n c (gP pk) off z:=⟨rfl,rfl,hW.ex⟩
 have h1:∀f v args m,(hG (gP pk)).call f=some v->(hG (gP pk)).spec f args (m.get (hG (gP pk)).blk) v->oW f args m=some (v,m):=by
  rintro f v args m hc ⟨rfl,rfl,hw⟩;exact if_pos ⟨rfl,⟨hw⟩⟩
 have h2:∀f,(hG (gP pk)).call f=none->∀a m,oW f a m=none:=by
  intro f hc a m;have hne:f≠101:=by rintro rfl;cases hc
  exact if_neg λh=>hne h.1
 have key:∀(N:Int) (qs:List Prop),Sp (gP pk) b sp n c off z M=some ((.tuple ⟨[.int .u64 N, .int .i64 0]⟩,M),[],qs)->(∀p∈qs,p)->N=Eh (cut pk off.toNat z.toNat)->CJ Tryz.prog kp 1 oW 20 80 [.slice (some ⟨b,0,sp⟩) n c, .int .i64 off, .int .i64 z] M=some (.tuple ⟨[.int .u64 (Eh (cut pk off.toNat z.toNat)), .int .i64 0]⟩,M):=by
  intro N qs hr hq hN
  obtain⟨v,m',q1,q2⟩:=H.callO_H (H:=hG (gP pk)) (o:=oW) h1 h2 (k:=20) (f:=80) (args:= [.slice (some ⟨b,0,sp⟩) n c, .int .i64 off, .int .i64 z]) (m:=M) (g:=λv m=>(v,m)) (b:=(.tuple ⟨[.int .u64 N, .int .i64 0]⟩,M)) (qs:=qs) (by
    show(Sp (gP pk) b sp n c off z M).map _=_;rw[hr];rfl) (by
    show(Sp (gP pk) b sp n c off z M).map _=(Sp (gP pk) b sp n c off z M).map _;rw[hr];rfl) hq
  rw[q1];simp only[Prod.mk.injEq]at q2;rw[q2.1,q2.2,hN]
 have hz0:Eh (cut pk (off.toNat+z.toNat) 0)=0:=by simp[cut,Eh]
 rcases h.sz with rfl|rfl|rfl|rfl
 ·refine key _ _ (qn ..) ?_ ?_
  ·intro p hp;rcases List.mem_cons.1 hp with rfl|hp
   ·exact hp0
   ·exact h.pG (by decide) p hp
  ·have e0:=h.nG (j:=0) (k:=0) (by decide) (by decide) (by decide);rw[show Eh (cut pk (off.toNat+(0+1)) 0)=0 from hz0]at e0;exact e0
 ·refine key _ _ (qo ..) ?_ ?_
  ·intro p hp;rcases List.mem_cons.1 hp with rfl|hp
   ·exact hp0
   ·simp only[List.mem_append]at hp;rcases hp with hp|hp<;>exact h.pG (by decide) p hp
  ·have e1:=h.nG (j:=1) (k:=0) (by decide) (by decide) (by decide);rw[show Eh (cut pk (off.toNat+(1+1)) 0)=0 from hz0]at e1;have e0:=h.nG (j:=0) (k:=1) (by decide) (by decide) (by decide);rw[e1];exact e0
 ·refine key _ _ (qp ..) ?_ ?_
  ·intro p hp;rcases List.mem_cons.1 hp with rfl|hp
   ·exact hp0
   ·simp only[List.mem_append]at hp;rcases hp with hp|hp|hp|hp<;>exact h.pG (by decide) p hp
  ·have e3:=h.nG (j:=3) (k:=0) (by decide) (by decide) (by decide);rw[show Eh (cut pk (off.toNat+(3+1)) 0)=0 from hz0]at e3;have e2:=h.nG (j:=2) (k:=1) (by decide) (by decide) (by decide);have e1:=h.nG (j:=1) (k:=2) (by decide) (by decide) (by decide);have e0:=h.nG (j:=0) (k:=3) (by decide) (by decide) (by decide);rw[e3,e2,e1];exact e0
 ·refine key _ _ (qq ..) ?_ ?_
  ·intro p hp;rcases List.mem_cons.1 hp with rfl|hp
   ·exact hp0
   ·simp only[List.mem_append]at hp;rcases hp with hp|hp|hp|hp|hp|hp|hp|hp<;>exact h.pG (by decide) p hp
  ·have e7:=h.nG (j:=7) (k:=0) (by decide) (by decide) (by decide);rw[show Eh (cut pk (off.toNat+(7+1)) 0)=0 from hz0]at e7;have e6:=h.nG (j:=6) (k:=1) (by decide) (by decide) (by decide);have e5:=h.nG (j:=5) (k:=2) (by decide) (by decide) (by decide);have e4:=h.nG (j:=4) (k:=3) (by decide) (by decide) (by decide);have e3:=h.nG (j:=3) (k:=4) (by decide) (by decide) (by decide);have e2:=h.nG (j:=2) (k:=5) (by decide) (by decide) (by decide);have e1:=h.nG (j:=1) (k:=6) (by decide) (by decide) (by decide);have e0:=h.nG (j:=0) (k:=7) (by decide) (by decide) (by decide);rw[e7,e6,e5,e4,e3,e2,e1];exact e0
end
end
end Go.Proofs.YtgjflcgmieiafaaGreatDoor
namespace Go.Proofs.YtgjflcgmieiafaaGreatDoor
open Go Go.DI Go.DI.Kit Go.Proofs Go.Cmp
noncomputable section
set_option maxHeartbeats 4000000
theorem mU(L P:List Value)(pv:Value)(n:Nat)(port k0 n0 k1 n1 k2 n2 k3 n3 k4 n4 k5 n5 k6 n6 k7 n7 k8 n8 k9 n9 at_ st imm:Int):
 DN (BC (AV (D4 11 2 imm)) 0 true 0 (mV L P (AS n) pv port (AM k0 n0 k1 n1 k2 n2 k3 n3 k4 n4 k5 n5 k6 n6 k7 n7 k8 n8 k9 n9) at_ st false 0))=
  some (seenV (.bool true) L P (AS n) pv port (AM k0 n0 k1 n1 1 (FA imm) k3 n3 k4 n4 k5 n5 k6 n6 k7 n7 k8 n8 k9 n9) (Ct at_) (Ct st) false 0,[GW at_ n,G1 L at_ (AV (D4 11 2 imm))])/\
 BE (BC (AV (D4 11 2 imm)) 0 true 0 (mV L P (AS n) pv port (AM k0 n0 k1 n1 k2 n2 k3 n3 k4 n4 k5 n5 k6 n6 k7 n7 k8 n8 k9 n9) at_ st false 0)):=⟨by kernel_rfl,by unfold BE;kernel_rfl⟩
theorem Yv(L P:List Value)(pv:Value)(n:Nat)(port k0 n0 n1 k2 n2 k3 n3 k4 n4 k5 n5 k6 n6 k7 n7 k8 n8 k9 n9 at_ st:Int):
 DN (BC (AV (Bk 11 6 1)) 0 true 0 (mV L P (AS n) pv port (AM k0 n0 1 n1 k2 n2 k3 n3 k4 n4 k5 n5 k6 n6 k7 n7 k8 n8 k9 n9) at_ st false 0))=
  some (seenV (.bool true) L P (AS n) pv port (AM k0 n0 1 n1 k2 n2 k3 n3 k4 n4 k5 n5 1 n1 k7 n7 k8 n8 k9 n9) (Ct at_) (Ct st) false 0,[GW at_ n,G1 L at_ (AV (Bk 11 6 1))])/\
 BE (BC (AV (Bk 11 6 1)) 0 true 0 (mV L P (AS n) pv port (AM k0 n0 1 n1 k2 n2 k3 n3 k4 n4 k5 n5 k6 n6 k7 n7 k8 n8 k9 n9) at_ st false 0)):=⟨by kernel_rfl,by unfold BE;kernel_rfl⟩
theorem Yw(L P:List Value)(pv:Value)(n:Nat)(port k0 n0 k1 n1 k2 n2 k3 n3 k4 n4 k5 n5 k6 n6 k7 n7 n8 k9 n9 at_ st:Int):
 DN (BC (AV (Bk 11 2 8)) 0 true 0 (mV L P (AS n) pv port (AM k0 n0 k1 n1 k2 n2 k3 n3 k4 n4 k5 n5 k6 n6 k7 n7 2 n8 k9 n9) at_ st false 0))=
  some (seenV (.bool true) L P (AS n) pv port (AM k0 n0 k1 n1 2 n8 k3 n3 k4 n4 k5 n5 k6 n6 k7 n7 2 n8 k9 n9) (Ct at_) (Ct st) false 0,[GW at_ n,G1 L at_ (AV (Bk 11 2 8))])/\
 BE (BC (AV (Bk 11 2 8)) 0 true 0 (mV L P (AS n) pv port (AM k0 n0 k1 n1 k2 n2 k3 n3 k4 n4 k5 n5 k6 n6 k7 n7 2 n8 k9 n9) at_ st false 0)):=⟨by kernel_rfl,by unfold BE;kernel_rfl⟩
theorem sf(L P:List Value)(pv:Value)(n:Nat)(port k0 n0 k1 n1 k4 n4 k5 n5 k6 n6 k7 n7 k8 n8 k9 n9 at_ st a c:Int):
 DN (BC (AV (Bk 5 2 3)) 0 true 0 (mV L P (AS n) pv port (AM k0 n0 k1 n1 1 a 1 c k4 n4 k5 n5 k6 n6 k7 n7 k8 n8 k9 n9) at_ st false 0))=
  some (seenV (.bool true) L P (AS n) pv port (AM k0 n0 k1 n1 1 (MS a c) 1 c k4 n4 k5 n5 k6 n6 k7 n7 k8 n8 k9 n9) (Ct at_) (Ct st) false 0,[GW at_ n,G1 L at_ (AV (Bk 5 2 3))])/\
 BE (BC (AV (Bk 5 2 3)) 0 true 0 (mV L P (AS n) pv port (AM k0 n0 k1 n1 1 a 1 c k4 n4 k5 n5 k6 n6 k7 n7 k8 n8 k9 n9) at_ st false 0)):=⟨by kernel_rfl,by unfold BE;kernel_rfl⟩
theorem ey(L P:List Value)(pv:Value)(n:Nat)(port k0 n0 k1 n1 k2 n2 k3 n3 k4 n4 k5 n5 n6 k7 n7 k8 n8 k9 n9 at_ st:Int):
 DN (BC (AV (BL 4 2 6 4)) 0 true 0 (mV L P (AS n) pv port (AM k0 n0 k1 n1 k2 n2 k3 n3 k4 n4 k5 n5 2 n6 k7 n7 k8 n8 k9 n9) at_ st false 0))=
  some (seenV (.bool true) L P (AS n) pv port (AM k0 n0 k1 n1 1 (IntKind.wrap .u64 port) k3 n3 k4 n4 k5 n5 2 n6 k7 n7 k8 n8 k9 n9) (Ct at_) (Ct st) false 0,[GW at_ n,G1 L at_ (AV (BL 4 2 6 4))])/\
 BE (BC (AV (BL 4 2 6 4)) 0 true 0 (mV L P (AS n) pv port (AM k0 n0 k1 n1 k2 n2 k3 n3 k4 n4 k5 n5 2 n6 k7 n7 k8 n8 k9 n9) at_ st false 0)):=⟨by kernel_rfl,by unfold BE;kernel_rfl⟩
theorem wC(L P:List Value)(pa:Option Addr)(pn pc:Nat)(n:Nat)(port k0 n0 k1 n1 k2 n2 k3 n3 k4 n4 k5 n5 k6 n6 n7 k8 n8 k9 n9 at_ st o N:Int):
 DN (BC (AV (BL 2 2 7 o)) 0 true N (mV L P (AS n) (.slice pa pn pc) port (AM k0 n0 k1 n1 k2 n2 k3 n3 k4 n4 k5 n5 k6 n6 3 n7 k8 n8 k9 n9) at_ st false 0))=
  some (seenV (.bool true) L P (AS n) (.slice pa pn pc) port (AM k0 n0 k1 n1 1 N k3 n3 k4 n4 k5 n5 k6 n6 3 n7 k8 n8 k9 n9) (Ct at_) (Ct st) false 0,[GW at_ n,G1 L at_ (AV (BL 2 2 7 o)),D3 80 [.slice pa pn pc, .int .i64 (TG o), .int .i64 2] (.cells true P) (.tuple ⟨[.int .u64 N, .int .i64 0]⟩)])/\
 BE (BC (AV (BL 2 2 7 o)) 0 true N (mV L P (AS n) (.slice pa pn pc) port (AM k0 n0 k1 n1 k2 n2 k3 n3 k4 n4 k5 n5 k6 n6 3 n7 k8 n8 k9 n9) at_ st false 0)):=⟨by kernel_rfl,by unfold BE;kernel_rfl⟩
theorem mW(L P:List Value)(pv:Value)(n:Nat)(port k0 n0 k1 n1 k3 n3 k4 n4 k5 n5 k6 n6 k7 n7 k8 n8 k9 n9 at_ st a:Int):
 DN (BC (AV (Cm 2)) 0 true 0 (mV L P (AS n) pv port (AM k0 n0 k1 n1 1 a k3 n3 k4 n4 k5 n5 k6 n6 k7 n7 k8 n8 k9 n9) at_ st false 0))=
  some (seenV (.bool true) L P (AS n) pv port (AM k0 n0 k1 n1 1 (Ld (Oe a) 48) k3 n3 k4 n4 k5 n5 k6 n6 k7 n7 k8 n8 k9 n9) (Ct at_) (Ct st) false 0,[GW at_ n,G1 L at_ (AV (Cm 2))])/\
 BE (BC (AV (Cm 2)) 0 true 0 (mV L P (AS n) pv port (AM k0 n0 k1 n1 1 a k3 n3 k4 n4 k5 n5 k6 n6 k7 n7 k8 n8 k9 n9) at_ st false 0)):=⟨by kernel_rfl,by unfold BE;kernel_rfl⟩
theorem VA(L P:List Value)(pv:Value)(n:Nat)(port k0 n0 k1 n1 k3 n3 k4 n4 k5 n5 k6 n6 k7 n7 k8 n8 k9 n9 at_ st a imm o:Int):
 DN (BC (AV (BJ (DU 3 2 imm) o)) 0 true 0 (mV L P (AS n) pv port (AM k0 n0 k1 n1 1 a k3 n3 k4 n4 k5 n5 k6 n6 k7 n7 k8 n8 k9 n9) at_ st false 0))=
  some (seenV (.bool true) L P (AS n) pv port (AM k0 n0 k1 n1 1 a k3 n3 k4 n4 k5 n5 k6 n6 k7 n7 k8 n8 k9 n9) (IntKind.wrap .i64 (Int.add (Ct at_) (IntKind.wrap .i64 o))) (Ct st) false 0,[GW at_ n,G1 L at_ (AV (BJ (DU 3 2 imm) o)),D3 87 [.int .i64 3, .bool true, .int .u64 a, .int .u64 (FA imm)] (.cells true P) (.tuple ⟨[.bool true, .int .i64 0]⟩)])/\
 BE (BC (AV (BJ (DU 3 2 imm) o)) 0 true 0 (mV L P (AS n) pv port (AM k0 n0 k1 n1 1 a k3 n3 k4 n4 k5 n5 k6 n6 k7 n7 k8 n8 k9 n9) at_ st false 0)):=⟨by kernel_rfl,by unfold BE;kernel_rfl⟩
theorem VB(L P:List Value)(pv:Value)(n:Nat)(port k0 n0 k1 n1 k2 n2 k3 n3 k4 n4 k5 n5 k6 n6 k7 n7 k9 n9 at_ st a imm o:Int):
 DN (BC (AV (BJ (DU 3 8 imm) o)) 0 false 0 (mV L P (AS n) pv port (AM k0 n0 k1 n1 k2 n2 k3 n3 k4 n4 k5 n5 k6 n6 k7 n7 1 a k9 n9) at_ st false 0))=
  some (seenV (.bool true) L P (AS n) pv port (AM k0 n0 k1 n1 k2 n2 k3 n3 k4 n4 k5 n5 k6 n6 k7 n7 1 a k9 n9) (Ct at_) (Ct st) false 0,[GW at_ n,G1 L at_ (AV (BJ (DU 3 8 imm) o)),D3 87 [.int .i64 3, .bool true, .int .u64 a, .int .u64 (FA imm)] (.cells true P) (.tuple ⟨[.bool false, .int .i64 0]⟩)])/\
 BE (BC (AV (BJ (DU 3 8 imm) o)) 0 false 0 (mV L P (AS n) pv port (AM k0 n0 k1 n1 k2 n2 k3 n3 k4 n4 k5 n5 k6 n6 k7 n7 1 a k9 n9) at_ st false 0)):=⟨by kernel_rfl,by unfold BE;kernel_rfl⟩
theorem VC(L P:List Value)(pv:Value)(n:Nat)(port k0 n0 k1 n1 k2 n2 k3 n3 k4 n4 k5 n5 k6 n6 k7 n7 k9 n9 at_ st a imm o:Int):
 DN (BC (AV (BJ (DU 5 8 imm) o)) 0 true 0 (mV L P (AS n) pv port (AM k0 n0 k1 n1 k2 n2 k3 n3 k4 n4 k5 n5 k6 n6 k7 n7 1 a k9 n9) at_ st false 0))=
  some (seenV (.bool true) L P (AS n) pv port (AM k0 n0 k1 n1 k2 n2 k3 n3 k4 n4 k5 n5 k6 n6 k7 n7 1 a k9 n9) (IntKind.wrap .i64 (Int.add (Ct at_) (IntKind.wrap .i64 o))) (Ct st) false 0,[GW at_ n,G1 L at_ (AV (BJ (DU 5 8 imm) o)),D3 87 [.int .i64 5, .bool true, .int .u64 a, .int .u64 (FA imm)] (.cells true P) (.tuple ⟨[.bool true, .int .i64 0]⟩)])/\
 BE (BC (AV (BJ (DU 5 8 imm) o)) 0 true 0 (mV L P (AS n) pv port (AM k0 n0 k1 n1 k2 n2 k3 n3 k4 n4 k5 n5 k6 n6 k7 n7 1 a k9 n9) at_ st false 0)):=⟨by kernel_rfl,by unfold BE;kernel_rfl⟩
theorem TH(L P:List Value)(pv:Value)(n:Nat)(port k0 n0 k1 n1 k3 n3 k4 n4 k5 n5 k6 n6 k7 n7 k8 n8 k9 n9 at_ st a imm o:Int):
 DN (BC (AV (BJ (DU 10 2 imm) o)) 0 false 0 (mV L P (AS n) pv port (AM k0 n0 k1 n1 1 a k3 n3 k4 n4 k5 n5 k6 n6 k7 n7 k8 n8 k9 n9) at_ st false 0))=
  some (seenV (.bool true) L P (AS n) pv port (AM k0 n0 k1 n1 1 a k3 n3 k4 n4 k5 n5 k6 n6 k7 n7 k8 n8 k9 n9) (Ct at_) (Ct st) false 0,[GW at_ n,G1 L at_ (AV (BJ (DU 10 2 imm) o)),D3 87 [.int .i64 10, .bool true, .int .u64 a, .int .u64 (FA imm)] (.cells true P) (.tuple ⟨[.bool false, .int .i64 0]⟩)])/\
 BE (BC (AV (BJ (DU 10 2 imm) o)) 0 false 0 (mV L P (AS n) pv port (AM k0 n0 k1 n1 1 a k3 n3 k4 n4 k5 n5 k6 n6 k7 n7 k8 n8 k9 n9) at_ st false 0)):=⟨by kernel_rfl,by unfold BE;kernel_rfl⟩
theorem VD(L P:List Value)(pv:Value)(n:Nat)(port k0 n0 k1 n1 k3 n3 k4 n4 k5 n5 k6 n6 k7 n7 k8 n8 k9 n9 at_ st a imm o:Int):
 DN (BC (AV (BJ (DU 2 2 imm) o)) 0 true 0 (mV L P (AS n) pv port (AM k0 n0 k1 n1 1 a k3 n3 k4 n4 k5 n5 k6 n6 k7 n7 k8 n8 k9 n9) at_ st false 0))=
  some (seenV (.bool true) L P (AS n) pv port (AM k0 n0 k1 n1 1 a k3 n3 k4 n4 k5 n5 k6 n6 k7 n7 k8 n8 k9 n9) (IntKind.wrap .i64 (Int.add (Ct at_) (IntKind.wrap .i64 o))) (Ct st) false 0,[GW at_ n,G1 L at_ (AV (BJ (DU 2 2 imm) o)),D3 87 [.int .i64 2, .bool true, .int .u64 a, .int .u64 (FA imm)] (.cells true P) (.tuple ⟨[.bool true, .int .i64 0]⟩)])/\
 BE (BC (AV (BJ (DU 2 2 imm) o)) 0 true 0 (mV L P (AS n) pv port (AM k0 n0 k1 n1 1 a k3 n3 k4 n4 k5 n5 k6 n6 k7 n7 k8 n8 k9 n9) at_ st false 0)):=⟨by kernel_rfl,by unfold BE;kernel_rfl⟩
theorem VE(L P:List Value)(pv:Value)(n:Nat)(port k0 n0 k1 n1 k2 n2 k3 n3 k4 n4 k5 n5 k6 n6 k7 n7 k9 n9 at_ st a imm o:Int):
 DN (BC (AV (BJ (DU 2 8 imm) o)) 0 false 0 (mV L P (AS n) pv port (AM k0 n0 k1 n1 k2 n2 k3 n3 k4 n4 k5 n5 k6 n6 k7 n7 1 a k9 n9) at_ st false 0))=
  some (seenV (.bool true) L P (AS n) pv port (AM k0 n0 k1 n1 k2 n2 k3 n3 k4 n4 k5 n5 k6 n6 k7 n7 1 a k9 n9) (Ct at_) (Ct st) false 0,[GW at_ n,G1 L at_ (AV (BJ (DU 2 8 imm) o)),D3 87 [.int .i64 2, .bool true, .int .u64 a, .int .u64 (FA imm)] (.cells true P) (.tuple ⟨[.bool false, .int .i64 0]⟩)])/\
 BE (BC (AV (BJ (DU 2 8 imm) o)) 0 false 0 (mV L P (AS n) pv port (AM k0 n0 k1 n1 k2 n2 k3 n3 k4 n4 k5 n5 k6 n6 k7 n7 1 a k9 n9) at_ st false 0)):=⟨by kernel_rfl,by unfold BE;kernel_rfl⟩
theorem Yx(L P:List Value)(pv:Value)(n:Nat)(port k0 n0 k1 n1 k4 n4 k5 n5 k6 n6 k7 n7 k8 n8 k9 n9 at_ st a c o:Int):
 DN (BC (AV (BJ (Ez 2) o)) 0 true 0 (mV L P (AS n) pv port (AM k0 n0 k1 n1 1 a 1 c k4 n4 k5 n5 k6 n6 k7 n7 k8 n8 k9 n9) at_ st false 0))=
  some (seenV (.bool true) L P (AS n) pv port (AM k0 n0 k1 n1 1 a 1 c k4 n4 k5 n5 k6 n6 k7 n7 k8 n8 k9 n9) (IntKind.wrap .i64 (Int.add (Ct at_) (IntKind.wrap .i64 o))) (Ct st) false 0,[GW at_ n,G1 L at_ (AV (BJ (Ez 2) o)),D3 87 [.int .i64 2, .bool true, .int .u64 a, .int .u64 c] (.cells true P) (.tuple ⟨[.bool true, .int .i64 0]⟩)])/\
 BE (BC (AV (BJ (Ez 2) o)) 0 true 0 (mV L P (AS n) pv port (AM k0 n0 k1 n1 1 a 1 c k4 n4 k5 n5 k6 n6 k7 n7 k8 n8 k9 n9) at_ st false 0)):=⟨by kernel_rfl,by unfold BE;kernel_rfl⟩
theorem sg(L P:List Value)(pv:Value)(n:Nat)(port k1 n1 k2 n2 k3 n3 k4 n4 k5 n5 k6 n6 k7 n7 k8 n8 k9 n9 at_ st a:Int):
 DN (BC (AV D0) 0 true 0 (mV L P (AS n) pv port (AM 1 a k1 n1 k2 n2 k3 n3 k4 n4 k5 n5 k6 n6 k7 n7 k8 n8 k9 n9) at_ st false 0))=
  some (seenV (.bool true) L P (AS n) pv port (AM 1 a k1 n1 k2 n2 k3 n3 k4 n4 k5 n5 k6 n6 k7 n7 k8 n8 k9 n9) at_ (Ct st) true 0,[GW at_ n,G1 L at_ (AV D0)])/\
 BE (BC (AV D0) 0 true 0 (mV L P (AS n) pv port (AM 1 a k1 n1 k2 n2 k3 n3 k4 n4 k5 n5 k6 n6 k7 n7 k8 n8 k9 n9) at_ st false 0)):=⟨by kernel_rfl,by unfold BE;kernel_rfl⟩
end
end Go.Proofs.YtgjflcgmieiafaaGreatDoor
namespace Go.Proofs.YtgjflcgmieiafaaGreatDoor
open Go Go.DI Go.DI.Kit Go.Proofs Go.Cmp
noncomputable section
set_option maxHeartbeats 4000000
theorem mX(L P:List Value)(pv:Value)(n:Nat)(port k0 n0 k1 n1 k2 n2 k3 n3 k4 n4 k5 n5 k6 n6 k7 n7 k8 n8 k9 n9 at_ st imm:Int):
 DN (BC (AV (D4 11 3 imm)) 0 true 0 (mV L P (AS n) pv port (AM k0 n0 k1 n1 k2 n2 k3 n3 k4 n4 k5 n5 k6 n6 k7 n7 k8 n8 k9 n9) at_ st false 0))=
  some (seenV (.bool true) L P (AS n) pv port (AM k0 n0 k1 n1 k2 n2 1 (FA imm) k4 n4 k5 n5 k6 n6 k7 n7 k8 n8 k9 n9) (Ct at_) (Ct st) false 0,[GW at_ n,G1 L at_ (AV (D4 11 3 imm))])/\
 BE (BC (AV (D4 11 3 imm)) 0 true 0 (mV L P (AS n) pv port (AM k0 n0 k1 n1 k2 n2 k3 n3 k4 n4 k5 n5 k6 n6 k7 n7 k8 n8 k9 n9) at_ st false 0)):=⟨by kernel_rfl,by unfold BE;kernel_rfl⟩
theorem Yy(L P:List Value)(pv:Value)(n:Nat)(port k0 n0 k1 n1 k2 n2 k3 n3 k4 n4 k5 n5 k6 n6 k7 n7 n8 k9 n9 at_ st:Int):
 DN (BC (AV (Bk 11 2 8)) 0 true 0 (mV L P (AS n) pv port (AM k0 n0 k1 n1 k2 n2 k3 n3 k4 n4 k5 n5 k6 n6 k7 n7 1 n8 k9 n9) at_ st false 0))=
  some (seenV (.bool true) L P (AS n) pv port (AM k0 n0 k1 n1 1 n8 k3 n3 k4 n4 k5 n5 k6 n6 k7 n7 1 n8 k9 n9) (Ct at_) (Ct st) false 0,[GW at_ n,G1 L at_ (AV (Bk 11 2 8))])/\
 BE (BC (AV (Bk 11 2 8)) 0 true 0 (mV L P (AS n) pv port (AM k0 n0 k1 n1 k2 n2 k3 n3 k4 n4 k5 n5 k6 n6 k7 n7 1 n8 k9 n9) at_ st false 0)):=⟨by kernel_rfl,by unfold BE;kernel_rfl⟩
theorem Yz(L P:List Value)(pv:Value)(n:Nat)(port k0 n0 n1 k2 n2 k3 n3 k4 n4 k5 n5 k6 n6 k7 n7 k8 n8 k9 n9 at_ st:Int):
 DN (BC (AV (Bk 11 6 1)) 0 true 0 (mV L P (AS n) pv port (AM k0 n0 3 n1 k2 n2 k3 n3 k4 n4 k5 n5 k6 n6 k7 n7 k8 n8 k9 n9) at_ st false 0))=
  some (seenV (.bool true) L P (AS n) pv port (AM k0 n0 3 n1 k2 n2 k3 n3 k4 n4 k5 n5 3 n1 k7 n7 k8 n8 k9 n9) (Ct at_) (Ct st) false 0,[GW at_ n,G1 L at_ (AV (Bk 11 6 1))])/\
 BE (BC (AV (Bk 11 6 1)) 0 true 0 (mV L P (AS n) pv port (AM k0 n0 3 n1 k2 n2 k3 n3 k4 n4 k5 n5 k6 n6 k7 n7 k8 n8 k9 n9) at_ st false 0)):=⟨by kernel_rfl,by unfold BE;kernel_rfl⟩
theorem wD(L P:List Value)(pv:Value)(n:Nat)(port k0 n0 k1 n1 k2 n2 k3 n3 k4 n4 k5 n5 k6 n6 k7 n7 k8 n8 k9 n9 at_ st imm:Int):
 DN (BC (AV (HE imm)) 0 true 0 (mV L P (AS n) pv port (AM k0 n0 k1 n1 k2 n2 k3 n3 k4 n4 k5 n5 k6 n6 k7 n7 k8 n8 k9 n9) at_ st false 0))=
  some (seenV (.bool true) L P (AS n) pv port (AM 1 (MS (MS (FA imm) 4294967295) 4294967295) k1 n1 k2 n2 k3 n3 k4 n4 k5 n5 k6 n6 k7 n7 k8 n8 k9 n9) (Ct at_) (Ct st) false 0,[GW at_ n,G1 L at_ (AV (HE imm))])/\
 BE (BC (AV (HE imm)) 0 true 0 (mV L P (AS n) pv port (AM k0 n0 k1 n1 k2 n2 k3 n3 k4 n4 k5 n5 k6 n6 k7 n7 k8 n8 k9 n9) at_ st false 0)):=⟨by kernel_rfl,by unfold BE;kernel_rfl⟩
theorem mY(L P:List Value)(pv:Value)(n:Nat)(port k0 n0 n1 k2 n2 k3 n3 k4 n4 k5 n5 k6 n6 k7 n7 k8 n8 k9 n9 at_ st:Int):
 DN (BC (AV (BL 8 7 1 8)) 0 true 0 (mV L P (AS n) pv port (AM k0 n0 2 n1 k2 n2 k3 n3 k4 n4 k5 n5 k6 n6 k7 n7 k8 n8 k9 n9) at_ st false 0))=
  some (seenV (.bool true) L P (AS n) pv port (AM k0 n0 2 n1 k2 n2 k3 n3 k4 n4 k5 n5 k6 n6 3 0 k8 n8 k9 n9) (Ct at_) (Ct st) false 0,[GW at_ n,G1 L at_ (AV (BL 8 7 1 8))])/\
 BE (BC (AV (BL 8 7 1 8)) 0 true 0 (mV L P (AS n) pv port (AM k0 n0 2 n1 k2 n2 k3 n3 k4 n4 k5 n5 k6 n6 k7 n7 k8 n8 k9 n9) at_ st false 0)):=⟨by kernel_rfl,by unfold BE;kernel_rfl⟩
theorem wE(L P:List Value)(pa:Option Addr)(pn pc:Nat)(n:Nat)(port k0 n0 k1 n1 k2 n2 k3 n3 k4 n4 k5 n5 k6 n6 n7 k8 n8 k9 n9 at_ st o N:Int):
 DN (BC (AV (BL 4 2 7 o)) 0 true N (mV L P (AS n) (.slice pa pn pc) port (AM k0 n0 k1 n1 k2 n2 k3 n3 k4 n4 k5 n5 k6 n6 3 n7 k8 n8 k9 n9) at_ st false 0))=
  some (seenV (.bool true) L P (AS n) (.slice pa pn pc) port (AM k0 n0 k1 n1 1 N k3 n3 k4 n4 k5 n5 k6 n6 3 n7 k8 n8 k9 n9) (Ct at_) (Ct st) false 0,[GW at_ n,G1 L at_ (AV (BL 4 2 7 o)),D3 80 [.slice pa pn pc, .int .i64 (TG o), .int .i64 4] (.cells true P) (.tuple ⟨[.int .u64 N, .int .i64 0]⟩)])/\
 BE (BC (AV (BL 4 2 7 o)) 0 true N (mV L P (AS n) (.slice pa pn pc) port (AM k0 n0 k1 n1 k2 n2 k3 n3 k4 n4 k5 n5 k6 n6 3 n7 k8 n8 k9 n9) at_ st false 0)):=⟨by kernel_rfl,by unfold BE;kernel_rfl⟩
theorem mZ(L P:List Value)(pv:Value)(n:Nat)(port k0 n0 k1 n1 k3 n3 k4 n4 k5 n5 k6 n6 k7 n7 k8 n8 k9 n9 at_ st a:Int):
 DN (BC (AV (Cm 4)) 0 true 0 (mV L P (AS n) pv port (AM k0 n0 k1 n1 1 a k3 n3 k4 n4 k5 n5 k6 n6 k7 n7 k8 n8 k9 n9) at_ st false 0))=
  some (seenV (.bool true) L P (AS n) pv port (AM k0 n0 k1 n1 1 (Ld (Oe a) 32) k3 n3 k4 n4 k5 n5 k6 n6 k7 n7 k8 n8 k9 n9) (Ct at_) (Ct st) false 0,[GW at_ n,G1 L at_ (AV (Cm 4))])/\
 BE (BC (AV (Cm 4)) 0 true 0 (mV L P (AS n) pv port (AM k0 n0 k1 n1 1 a k3 n3 k4 n4 k5 n5 k6 n6 k7 n7 k8 n8 k9 n9) at_ st false 0)):=⟨by kernel_rfl,by unfold BE;kernel_rfl⟩
theorem VF(L P:List Value)(pv:Value)(n:Nat)(port k0 n0 k1 n1 k3 n3 k4 n4 k5 n5 k6 n6 k7 n7 k8 n8 k9 n9 at_ st a imm o:Int):
 DN (BC (AV (BJ (DU 3 2 imm) o)) 0 false 0 (mV L P (AS n) pv port (AM k0 n0 k1 n1 1 a k3 n3 k4 n4 k5 n5 k6 n6 k7 n7 k8 n8 k9 n9) at_ st false 0))=
  some (seenV (.bool true) L P (AS n) pv port (AM k0 n0 k1 n1 1 a k3 n3 k4 n4 k5 n5 k6 n6 k7 n7 k8 n8 k9 n9) (Ct at_) (Ct st) false 0,[GW at_ n,G1 L at_ (AV (BJ (DU 3 2 imm) o)),D3 87 [.int .i64 3, .bool true, .int .u64 a, .int .u64 (FA imm)] (.cells true P) (.tuple ⟨[.bool false, .int .i64 0]⟩)])/\
 BE (BC (AV (BJ (DU 3 2 imm) o)) 0 false 0 (mV L P (AS n) pv port (AM k0 n0 k1 n1 1 a k3 n3 k4 n4 k5 n5 k6 n6 k7 n7 k8 n8 k9 n9) at_ st false 0)):=⟨by kernel_rfl,by unfold BE;kernel_rfl⟩
theorem VG(L P:List Value)(pv:Value)(n:Nat)(port k0 n0 k1 n1 k3 n3 k4 n4 k5 n5 k6 n6 k7 n7 k8 n8 k9 n9 at_ st a imm o:Int):
 DN (BC (AV (BJ (DU 5 2 imm) o)) 0 true 0 (mV L P (AS n) pv port (AM k0 n0 k1 n1 1 a k3 n3 k4 n4 k5 n5 k6 n6 k7 n7 k8 n8 k9 n9) at_ st false 0))=
  some (seenV (.bool true) L P (AS n) pv port (AM k0 n0 k1 n1 1 a k3 n3 k4 n4 k5 n5 k6 n6 k7 n7 k8 n8 k9 n9) (IntKind.wrap .i64 (Int.add (Ct at_) (IntKind.wrap .i64 o))) (Ct st) false 0,[GW at_ n,G1 L at_ (AV (BJ (DU 5 2 imm) o)),D3 87 [.int .i64 5, .bool true, .int .u64 a, .int .u64 (FA imm)] (.cells true P) (.tuple ⟨[.bool true, .int .i64 0]⟩)])/\
 BE (BC (AV (BJ (DU 5 2 imm) o)) 0 true 0 (mV L P (AS n) pv port (AM k0 n0 k1 n1 1 a k3 n3 k4 n4 k5 n5 k6 n6 k7 n7 k8 n8 k9 n9) at_ st false 0)):=⟨by kernel_rfl,by unfold BE;kernel_rfl⟩
theorem VH(L P:List Value)(pv:Value)(n:Nat)(port k0 n0 k1 n1 k2 n2 k3 n3 k4 n4 k5 n5 k6 n6 k7 n7 k9 n9 at_ st a imm o:Int):
 DN (BC (AV (BJ (DU 5 8 imm) o)) 0 false 0 (mV L P (AS n) pv port (AM k0 n0 k1 n1 k2 n2 k3 n3 k4 n4 k5 n5 k6 n6 k7 n7 1 a k9 n9) at_ st false 0))=
  some (seenV (.bool true) L P (AS n) pv port (AM k0 n0 k1 n1 k2 n2 k3 n3 k4 n4 k5 n5 k6 n6 k7 n7 1 a k9 n9) (Ct at_) (Ct st) false 0,[GW at_ n,G1 L at_ (AV (BJ (DU 5 8 imm) o)),D3 87 [.int .i64 5, .bool true, .int .u64 a, .int .u64 (FA imm)] (.cells true P) (.tuple ⟨[.bool false, .int .i64 0]⟩)])/\
 BE (BC (AV (BJ (DU 5 8 imm) o)) 0 false 0 (mV L P (AS n) pv port (AM k0 n0 k1 n1 k2 n2 k3 n3 k4 n4 k5 n5 k6 n6 k7 n7 1 a k9 n9) at_ st false 0)):=⟨by kernel_rfl,by unfold BE;kernel_rfl⟩
theorem TI(L P:List Value)(pv:Value)(n:Nat)(port k0 n0 k1 n1 k2 n2 k3 n3 k4 n4 k5 n5 k6 n6 k7 n7 k9 n9 at_ st a imm o:Int):
 DN (BC (AV (BJ (DU 10 8 imm) o)) 0 true 0 (mV L P (AS n) pv port (AM k0 n0 k1 n1 k2 n2 k3 n3 k4 n4 k5 n5 k6 n6 k7 n7 1 a k9 n9) at_ st false 0))=
  some (seenV (.bool true) L P (AS n) pv port (AM k0 n0 k1 n1 k2 n2 k3 n3 k4 n4 k5 n5 k6 n6 k7 n7 1 a k9 n9) (IntKind.wrap .i64 (Int.add (Ct at_) (IntKind.wrap .i64 o))) (Ct st) false 0,[GW at_ n,G1 L at_ (AV (BJ (DU 10 8 imm) o)),D3 87 [.int .i64 10, .bool true, .int .u64 a, .int .u64 (FA imm)] (.cells true P) (.tuple ⟨[.bool true, .int .i64 0]⟩)])/\
 BE (BC (AV (BJ (DU 10 8 imm) o)) 0 true 0 (mV L P (AS n) pv port (AM k0 n0 k1 n1 k2 n2 k3 n3 k4 n4 k5 n5 k6 n6 k7 n7 1 a k9 n9) at_ st false 0)):=⟨by kernel_rfl,by unfold BE;kernel_rfl⟩
theorem VI(L P:List Value)(pv:Value)(n:Nat)(port k0 n0 k1 n1 k3 n3 k4 n4 k5 n5 k6 n6 k7 n7 k8 n8 k9 n9 at_ st a imm o:Int):
 DN (BC (AV (BJ (DU 2 2 imm) o)) 0 false 0 (mV L P (AS n) pv port (AM k0 n0 k1 n1 1 a k3 n3 k4 n4 k5 n5 k6 n6 k7 n7 k8 n8 k9 n9) at_ st false 0))=
  some (seenV (.bool true) L P (AS n) pv port (AM k0 n0 k1 n1 1 a k3 n3 k4 n4 k5 n5 k6 n6 k7 n7 k8 n8 k9 n9) (Ct at_) (Ct st) false 0,[GW at_ n,G1 L at_ (AV (BJ (DU 2 2 imm) o)),D3 87 [.int .i64 2, .bool true, .int .u64 a, .int .u64 (FA imm)] (.cells true P) (.tuple ⟨[.bool false, .int .i64 0]⟩)])/\
 BE (BC (AV (BJ (DU 2 2 imm) o)) 0 false 0 (mV L P (AS n) pv port (AM k0 n0 k1 n1 1 a k3 n3 k4 n4 k5 n5 k6 n6 k7 n7 k8 n8 k9 n9) at_ st false 0)):=⟨by kernel_rfl,by unfold BE;kernel_rfl⟩
theorem VJ(L P:List Value)(pv:Value)(n:Nat)(port k0 n0 k1 n1 k4 n4 k5 n5 k6 n6 k7 n7 k8 n8 k9 n9 at_ st a c o:Int):
 DN (BC (AV (BJ (Ez 10) o)) 0 true 0 (mV L P (AS n) pv port (AM k0 n0 k1 n1 1 a 1 c k4 n4 k5 n5 k6 n6 k7 n7 k8 n8 k9 n9) at_ st false 0))=
  some (seenV (.bool true) L P (AS n) pv port (AM k0 n0 k1 n1 1 a 1 c k4 n4 k5 n5 k6 n6 k7 n7 k8 n8 k9 n9) (IntKind.wrap .i64 (Int.add (Ct at_) (IntKind.wrap .i64 o))) (Ct st) false 0,[GW at_ n,G1 L at_ (AV (BJ (Ez 10) o)),D3 87 [.int .i64 10, .bool true, .int .u64 a, .int .u64 c] (.cells true P) (.tuple ⟨[.bool true, .int .i64 0]⟩)])/\
 BE (BC (AV (BJ (Ez 10) o)) 0 true 0 (mV L P (AS n) pv port (AM k0 n0 k1 n1 1 a 1 c k4 n4 k5 n5 k6 n6 k7 n7 k8 n8 k9 n9) at_ st false 0)):=⟨by kernel_rfl,by unfold BE;kernel_rfl⟩
theorem ZA(L P:List Value)(pv:Value)(n:Nat)(port k0 n0 k1 n1 k4 n4 k5 n5 k6 n6 k7 n7 k8 n8 k9 n9 at_ st a c o:Int):
 DN (BC (AV (BJ (Ez 2) o)) 0 false 0 (mV L P (AS n) pv port (AM k0 n0 k1 n1 1 a 1 c k4 n4 k5 n5 k6 n6 k7 n7 k8 n8 k9 n9) at_ st false 0))=
  some (seenV (.bool true) L P (AS n) pv port (AM k0 n0 k1 n1 1 a 1 c k4 n4 k5 n5 k6 n6 k7 n7 k8 n8 k9 n9) (Ct at_) (Ct st) false 0,[GW at_ n,G1 L at_ (AV (BJ (Ez 2) o)),D3 87 [.int .i64 2, .bool true, .int .u64 a, .int .u64 c] (.cells true P) (.tuple ⟨[.bool false, .int .i64 0]⟩)])/\
 BE (BC (AV (BJ (Ez 2) o)) 0 false 0 (mV L P (AS n) pv port (AM k0 n0 k1 n1 1 a 1 c k4 n4 k5 n5 k6 n6 k7 n7 k8 n8 k9 n9) at_ st false 0)):=⟨by kernel_rfl,by unfold BE;kernel_rfl⟩
theorem m3(L P:List Value)(pv:Value)(n:Nat)(port k0 n0 k1 n1 k2 n2 k3 n3 k4 n4 k5 n5 k6 n6 k7 n7 k8 n8 k9 n9 at_ st l h:Int):
 DN (BC (AV ⟨24,3,0,0,l⟩) h true 0 (mV L P (AS n) pv port (AM k0 n0 k1 n1 k2 n2 k3 n3 k4 n4 k5 n5 k6 n6 k7 n7 k8 n8 k9 n9) at_ st false 0))=
  some (seenV (.bool true) L P (AS n) pv port (AM k0 n0 k1 n1 k2 n2 1 (kH (IntKind.wrap .u64 (IntKind.wrap .u32 l)) (OJ (IntKind.wrap .u64 (IntKind.wrap .u32 h)) 32)) k4 n4 k5 n5 k6 n6 k7 n7 k8 n8 k9 n9) (IntKind.wrap .i64 (Int.add at_ 2)) (Ct st) false 0,[GW at_ n,G1 L at_ (AV ⟨24,3,0,0,l⟩),GW (Ct at_) n,H.ldOk (.cells true L) (Nat.add (Nat.add 0 (Nat.mul (Ct at_).toNat 5)) 4) false 1 (.int .i32 h)])/\
 BE (BC (AV ⟨24,3,0,0,l⟩) h true 0 (mV L P (AS n) pv port (AM k0 n0 k1 n1 k2 n2 k3 n3 k4 n4 k5 n5 k6 n6 k7 n7 k8 n8 k9 n9) at_ st false 0)):=⟨by kernel_rfl,by unfold BE;kernel_rfl⟩
end
end Go.Proofs.YtgjflcgmieiafaaGreatDoor
namespace Go.Proofs.YtgjflcgmieiafaaGreatDoor
open Go Go.DI Go.DI.Kit Go.Proofs Go.Cmp
noncomputable section
set_option maxHeartbeats 4000000
theorem sj(L P:List Value)(pv:Value)(n:Nat)(port k0 n0 k1 n1 k3 n3 k4 n4 k5 n5 k6 n6 k7 n7 k8 n8 k9 n9 at_ st a imm:Int):
 DN (BC (AV (D4 5 2 imm)) 0 true 0 (mV L P (AS n) pv port (AM k0 n0 k1 n1 1 a k3 n3 k4 n4 k5 n5 k6 n6 k7 n7 k8 n8 k9 n9) at_ st false 0))=
  some (seenV (.bool true) L P (AS n) pv port (AM k0 n0 k1 n1 1 (MS a (FA imm)) k3 n3 k4 n4 k5 n5 k6 n6 k7 n7 k8 n8 k9 n9) (Ct at_) (Ct st) false 0,[GW at_ n,G1 L at_ (AV (D4 5 2 imm))])/\
 BE (BC (AV (D4 5 2 imm)) 0 true 0 (mV L P (AS n) pv port (AM k0 n0 k1 n1 1 a k3 n3 k4 n4 k5 n5 k6 n6 k7 n7 k8 n8 k9 n9) at_ st false 0)):=⟨by kernel_rfl,by unfold BE;kernel_rfl⟩
theorem ZB(L P:List Value)(pv:Value)(n:Nat)(port k0 n0 n1 k2 n2 k3 n3 k4 n4 k5 n5 k6 n6 k7 n7 k8 n8 k9 n9 at_ st:Int):
 DN (BC (AV (Bk 11 6 1)) 0 true 0 (mV L P (AS n) pv port (AM k0 n0 2 n1 k2 n2 k3 n3 k4 n4 k5 n5 k6 n6 k7 n7 k8 n8 k9 n9) at_ st false 0))=
  some (seenV (.bool true) L P (AS n) pv port (AM k0 n0 2 n1 k2 n2 k3 n3 k4 n4 k5 n5 2 n1 k7 n7 k8 n8 k9 n9) (Ct at_) (Ct st) false 0,[GW at_ n,G1 L at_ (AV (Bk 11 6 1))])/\
 BE (BC (AV (Bk 11 6 1)) 0 true 0 (mV L P (AS n) pv port (AM k0 n0 2 n1 k2 n2 k3 n3 k4 n4 k5 n5 k6 n6 k7 n7 k8 n8 k9 n9) at_ st false 0)):=⟨by kernel_rfl,by unfold BE;kernel_rfl⟩
theorem ZC(L P:List Value)(pv:Value)(n:Nat)(port k0 n0 k1 n1 k2 n2 k3 n3 k4 n4 k5 n5 k6 n6 k7 n7 n8 k9 n9 at_ st:Int):
 DN (BC (AV (Bk 11 2 8)) 0 true 0 (mV L P (AS n) pv port (AM k0 n0 k1 n1 k2 n2 k3 n3 k4 n4 k5 n5 k6 n6 k7 n7 3 n8 k9 n9) at_ st false 0))=
  some (seenV (.bool true) L P (AS n) pv port (AM k0 n0 k1 n1 3 n8 k3 n3 k4 n4 k5 n5 k6 n6 k7 n7 3 n8 k9 n9) (Ct at_) (Ct st) false 0,[GW at_ n,G1 L at_ (AV (Bk 11 2 8))])/\
 BE (BC (AV (Bk 11 2 8)) 0 true 0 (mV L P (AS n) pv port (AM k0 n0 k1 n1 k2 n2 k3 n3 k4 n4 k5 n5 k6 n6 k7 n7 3 n8 k9 n9) at_ st false 0)):=⟨by kernel_rfl,by unfold BE;kernel_rfl⟩
theorem m4(L P:List Value)(pa:Option Addr)(pn pc:Nat)(n:Nat)(port k0 n0 k1 n1 k2 n2 k3 n3 k4 n4 k5 n5 n6 k7 n7 k8 n8 k9 n9 at_ st:Int):
 DN (BC (AV (BL 4 8 6 0)) 0 true 0 (mV L P (AS n) (.slice pa pn pc) port (AM k0 n0 k1 n1 k2 n2 k3 n3 k4 n4 k5 n5 2 n6 k7 n7 k8 n8 k9 n9) at_ st false 0))=
  some (seenV (.bool true) L P (AS n) (.slice pa pn pc) port (AM k0 n0 k1 n1 k2 n2 k3 n3 k4 n4 k5 n5 2 n6 k7 n7 1 (IntKind.wrap .u64 (Int.ofNat pn)) k9 n9) (Ct at_) (Ct st) false 0,[GW at_ n,G1 L at_ (AV (BL 4 8 6 0))])/\
 BE (BC (AV (BL 4 8 6 0)) 0 true 0 (mV L P (AS n) (.slice pa pn pc) port (AM k0 n0 k1 n1 k2 n2 k3 n3 k4 n4 k5 n5 2 n6 k7 n7 k8 n8 k9 n9) at_ st false 0)):=⟨by kernel_rfl,by unfold BE;kernel_rfl⟩
theorem wF(L P:List Value)(pa:Option Addr)(pn pc:Nat)(n:Nat)(port k0 n0 k1 n1 k2 n2 k3 n3 k4 n4 k5 n5 k6 n6 n7 k8 n8 k9 n9 at_ st o N:Int):
 DN (BC (AV (BL 1 2 7 o)) 0 true N (mV L P (AS n) (.slice pa pn pc) port (AM k0 n0 k1 n1 k2 n2 k3 n3 k4 n4 k5 n5 k6 n6 3 n7 k8 n8 k9 n9) at_ st false 0))=
  some (seenV (.bool true) L P (AS n) (.slice pa pn pc) port (AM k0 n0 k1 n1 1 N k3 n3 k4 n4 k5 n5 k6 n6 3 n7 k8 n8 k9 n9) (Ct at_) (Ct st) false 0,[GW at_ n,G1 L at_ (AV (BL 1 2 7 o)),D3 80 [.slice pa pn pc, .int .i64 (TG o), .int .i64 1] (.cells true P) (.tuple ⟨[.int .u64 N, .int .i64 0]⟩)])/\
 BE (BC (AV (BL 1 2 7 o)) 0 true N (mV L P (AS n) (.slice pa pn pc) port (AM k0 n0 k1 n1 k2 n2 k3 n3 k4 n4 k5 n5 k6 n6 3 n7 k8 n8 k9 n9) at_ st false 0)):=⟨by kernel_rfl,by unfold BE;kernel_rfl⟩
theorem wG(L P:List Value)(pa:Option Addr)(pn pc:Nat)(n:Nat)(port k0 n0 k1 n1 k2 n2 k3 n3 k4 n4 k5 n5 k6 n6 n7 k8 n8 k9 n9 at_ st o N:Int):
 DN (BC (AV (BL 8 2 7 o)) 0 true N (mV L P (AS n) (.slice pa pn pc) port (AM k0 n0 k1 n1 k2 n2 k3 n3 k4 n4 k5 n5 k6 n6 3 n7 k8 n8 k9 n9) at_ st false 0))=
  some (seenV (.bool true) L P (AS n) (.slice pa pn pc) port (AM k0 n0 k1 n1 1 N k3 n3 k4 n4 k5 n5 k6 n6 3 n7 k8 n8 k9 n9) (Ct at_) (Ct st) false 0,[GW at_ n,G1 L at_ (AV (BL 8 2 7 o)),D3 80 [.slice pa pn pc, .int .i64 (TG o), .int .i64 8] (.cells true P) (.tuple ⟨[.int .u64 N, .int .i64 0]⟩)])/\
 BE (BC (AV (BL 8 2 7 o)) 0 true N (mV L P (AS n) (.slice pa pn pc) port (AM k0 n0 k1 n1 k2 n2 k3 n3 k4 n4 k5 n5 k6 n6 3 n7 k8 n8 k9 n9) at_ st false 0)):=⟨by kernel_rfl,by unfold BE;kernel_rfl⟩
theorem m5(L P:List Value)(pv:Value)(n:Nat)(port k0 n0 k1 n1 k3 n3 k4 n4 k5 n5 k6 n6 k7 n7 k8 n8 k9 n9 at_ st a:Int):
 DN (BC (AV (Cm 8)) 0 true 0 (mV L P (AS n) pv port (AM k0 n0 k1 n1 1 a k3 n3 k4 n4 k5 n5 k6 n6 k7 n7 k8 n8 k9 n9) at_ st false 0))=
  some (seenV (.bool true) L P (AS n) pv port (AM k0 n0 k1 n1 1 (Ld (Oe a) 0) k3 n3 k4 n4 k5 n5 k6 n6 k7 n7 k8 n8 k9 n9) (Ct at_) (Ct st) false 0,[GW at_ n,G1 L at_ (AV (Cm 8))])/\
 BE (BC (AV (Cm 8)) 0 true 0 (mV L P (AS n) pv port (AM k0 n0 k1 n1 1 a k3 n3 k4 n4 k5 n5 k6 n6 k7 n7 k8 n8 k9 n9) at_ st false 0)):=⟨by kernel_rfl,by unfold BE;kernel_rfl⟩
theorem VK(L P:List Value)(pv:Value)(n:Nat)(port k0 n0 k1 n1 k2 n2 k3 n3 k4 n4 k5 n5 k6 n6 k7 n7 k9 n9 at_ st a imm o:Int):
 DN (BC (AV (BJ (DU 3 8 imm) o)) 0 true 0 (mV L P (AS n) pv port (AM k0 n0 k1 n1 k2 n2 k3 n3 k4 n4 k5 n5 k6 n6 k7 n7 1 a k9 n9) at_ st false 0))=
  some (seenV (.bool true) L P (AS n) pv port (AM k0 n0 k1 n1 k2 n2 k3 n3 k4 n4 k5 n5 k6 n6 k7 n7 1 a k9 n9) (IntKind.wrap .i64 (Int.add (Ct at_) (IntKind.wrap .i64 o))) (Ct st) false 0,[GW at_ n,G1 L at_ (AV (BJ (DU 3 8 imm) o)),D3 87 [.int .i64 3, .bool true, .int .u64 a, .int .u64 (FA imm)] (.cells true P) (.tuple ⟨[.bool true, .int .i64 0]⟩)])/\
 BE (BC (AV (BJ (DU 3 8 imm) o)) 0 true 0 (mV L P (AS n) pv port (AM k0 n0 k1 n1 k2 n2 k3 n3 k4 n4 k5 n5 k6 n6 k7 n7 1 a k9 n9) at_ st false 0)):=⟨by kernel_rfl,by unfold BE;kernel_rfl⟩
theorem VL(L P:List Value)(pv:Value)(n:Nat)(port k0 n0 k1 n1 k3 n3 k4 n4 k5 n5 k6 n6 k7 n7 k8 n8 k9 n9 at_ st a imm o:Int):
 DN (BC (AV (BJ (DU 5 2 imm) o)) 0 false 0 (mV L P (AS n) pv port (AM k0 n0 k1 n1 1 a k3 n3 k4 n4 k5 n5 k6 n6 k7 n7 k8 n8 k9 n9) at_ st false 0))=
  some (seenV (.bool true) L P (AS n) pv port (AM k0 n0 k1 n1 1 a k3 n3 k4 n4 k5 n5 k6 n6 k7 n7 k8 n8 k9 n9) (Ct at_) (Ct st) false 0,[GW at_ n,G1 L at_ (AV (BJ (DU 5 2 imm) o)),D3 87 [.int .i64 5, .bool true, .int .u64 a, .int .u64 (FA imm)] (.cells true P) (.tuple ⟨[.bool false, .int .i64 0]⟩)])/\
 BE (BC (AV (BJ (DU 5 2 imm) o)) 0 false 0 (mV L P (AS n) pv port (AM k0 n0 k1 n1 1 a k3 n3 k4 n4 k5 n5 k6 n6 k7 n7 k8 n8 k9 n9) at_ st false 0)):=⟨by kernel_rfl,by unfold BE;kernel_rfl⟩
theorem TJ(L P:List Value)(pv:Value)(n:Nat)(port k0 n0 k1 n1 k3 n3 k4 n4 k5 n5 k6 n6 k7 n7 k8 n8 k9 n9 at_ st a imm o:Int):
 DN (BC (AV (BJ (DU 10 2 imm) o)) 0 true 0 (mV L P (AS n) pv port (AM k0 n0 k1 n1 1 a k3 n3 k4 n4 k5 n5 k6 n6 k7 n7 k8 n8 k9 n9) at_ st false 0))=
  some (seenV (.bool true) L P (AS n) pv port (AM k0 n0 k1 n1 1 a k3 n3 k4 n4 k5 n5 k6 n6 k7 n7 k8 n8 k9 n9) (IntKind.wrap .i64 (Int.add (Ct at_) (IntKind.wrap .i64 o))) (Ct st) false 0,[GW at_ n,G1 L at_ (AV (BJ (DU 10 2 imm) o)),D3 87 [.int .i64 10, .bool true, .int .u64 a, .int .u64 (FA imm)] (.cells true P) (.tuple ⟨[.bool true, .int .i64 0]⟩)])/\
 BE (BC (AV (BJ (DU 10 2 imm) o)) 0 true 0 (mV L P (AS n) pv port (AM k0 n0 k1 n1 1 a k3 n3 k4 n4 k5 n5 k6 n6 k7 n7 k8 n8 k9 n9) at_ st false 0)):=⟨by kernel_rfl,by unfold BE;kernel_rfl⟩
theorem TK(L P:List Value)(pv:Value)(n:Nat)(port k0 n0 k1 n1 k2 n2 k3 n3 k4 n4 k5 n5 k6 n6 k7 n7 k9 n9 at_ st a imm o:Int):
 DN (BC (AV (BJ (DU 10 8 imm) o)) 0 false 0 (mV L P (AS n) pv port (AM k0 n0 k1 n1 k2 n2 k3 n3 k4 n4 k5 n5 k6 n6 k7 n7 1 a k9 n9) at_ st false 0))=
  some (seenV (.bool true) L P (AS n) pv port (AM k0 n0 k1 n1 k2 n2 k3 n3 k4 n4 k5 n5 k6 n6 k7 n7 1 a k9 n9) (Ct at_) (Ct st) false 0,[GW at_ n,G1 L at_ (AV (BJ (DU 10 8 imm) o)),D3 87 [.int .i64 10, .bool true, .int .u64 a, .int .u64 (FA imm)] (.cells true P) (.tuple ⟨[.bool false, .int .i64 0]⟩)])/\
 BE (BC (AV (BJ (DU 10 8 imm) o)) 0 false 0 (mV L P (AS n) pv port (AM k0 n0 k1 n1 k2 n2 k3 n3 k4 n4 k5 n5 k6 n6 k7 n7 1 a k9 n9) at_ st false 0)):=⟨by kernel_rfl,by unfold BE;kernel_rfl⟩
theorem VM(L P:List Value)(pv:Value)(n:Nat)(port k0 n0 k1 n1 k2 n2 k3 n3 k4 n4 k5 n5 k6 n6 k7 n7 k9 n9 at_ st a imm o:Int):
 DN (BC (AV (BJ (DU 2 8 imm) o)) 0 true 0 (mV L P (AS n) pv port (AM k0 n0 k1 n1 k2 n2 k3 n3 k4 n4 k5 n5 k6 n6 k7 n7 1 a k9 n9) at_ st false 0))=
  some (seenV (.bool true) L P (AS n) pv port (AM k0 n0 k1 n1 k2 n2 k3 n3 k4 n4 k5 n5 k6 n6 k7 n7 1 a k9 n9) (IntKind.wrap .i64 (Int.add (Ct at_) (IntKind.wrap .i64 o))) (Ct st) false 0,[GW at_ n,G1 L at_ (AV (BJ (DU 2 8 imm) o)),D3 87 [.int .i64 2, .bool true, .int .u64 a, .int .u64 (FA imm)] (.cells true P) (.tuple ⟨[.bool true, .int .i64 0]⟩)])/\
 BE (BC (AV (BJ (DU 2 8 imm) o)) 0 true 0 (mV L P (AS n) pv port (AM k0 n0 k1 n1 k2 n2 k3 n3 k4 n4 k5 n5 k6 n6 k7 n7 1 a k9 n9) at_ st false 0)):=⟨by kernel_rfl,by unfold BE;kernel_rfl⟩
theorem VN(L P:List Value)(pv:Value)(n:Nat)(port k0 n0 k1 n1 k4 n4 k5 n5 k6 n6 k7 n7 k8 n8 k9 n9 at_ st a c o:Int):
 DN (BC (AV (BJ (Ez 10) o)) 0 false 0 (mV L P (AS n) pv port (AM k0 n0 k1 n1 1 a 1 c k4 n4 k5 n5 k6 n6 k7 n7 k8 n8 k9 n9) at_ st false 0))=
  some (seenV (.bool true) L P (AS n) pv port (AM k0 n0 k1 n1 1 a 1 c k4 n4 k5 n5 k6 n6 k7 n7 k8 n8 k9 n9) (Ct at_) (Ct st) false 0,[GW at_ n,G1 L at_ (AV (BJ (Ez 10) o)),D3 87 [.int .i64 10, .bool true, .int .u64 a, .int .u64 c] (.cells true P) (.tuple ⟨[.bool false, .int .i64 0]⟩)])/\
 BE (BC (AV (BJ (Ez 10) o)) 0 false 0 (mV L P (AS n) pv port (AM k0 n0 k1 n1 1 a 1 c k4 n4 k5 n5 k6 n6 k7 n7 k8 n8 k9 n9) at_ st false 0)):=⟨by kernel_rfl,by unfold BE;kernel_rfl⟩
theorem sk(L P:List Value)(pv:Value)(n:Nat)(port k0 n0 k1 n1 k2 n2 k3 n3 k4 n4 k5 n5 k6 n6 k7 n7 k8 n8 k9 n9 at_ st o:Int):
 DN (BC (AV (BJ CD o)) 0 true 0 (mV L P (AS n) pv port (AM k0 n0 k1 n1 k2 n2 k3 n3 k4 n4 k5 n5 k6 n6 k7 n7 k8 n8 k9 n9) at_ st false 0))=
  some (seenV (.bool true) L P (AS n) pv port (AM k0 n0 k1 n1 k2 n2 k3 n3 k4 n4 k5 n5 k6 n6 k7 n7 k8 n8 k9 n9) (IntKind.wrap .i64 (Int.add (Ct at_) (IntKind.wrap .i64 o))) (Ct st) false 0,[GW at_ n,G1 L at_ (AV (BJ CD o))])/\
 BE (BC (AV (BJ CD o)) 0 true 0 (mV L P (AS n) pv port (AM k0 n0 k1 n1 k2 n2 k3 n3 k4 n4 k5 n5 k6 n6 k7 n7 k8 n8 k9 n9) at_ st false 0)):=⟨by kernel_rfl,by unfold BE;kernel_rfl⟩
end
end Go.Proofs.YtgjflcgmieiafaaGreatDoor
namespace Go.Cmp
def Kz(x:BitVec 64):BitVec 64:=
 let x:=(x >>> 8 &&& 0x00ff00ff00ff00ff#64)|||((x &&& 0x00ff00ff00ff00ff#64)<<<8)
 let x:=(x >>> 16 &&& 0x0000ffff0000ffff#64)|||((x &&& 0x0000ffff0000ffff#64)<<<16)
 x >>> 32|||x <<<32
theorem iY(x:BitVec 64):∀i,i<64->(Kz x).getLsbD i=x.getLsbD (8*(7 - i / 8)+i % 8):=by
 intro i hi
 have h:i=0\/i=1\/i=2\/i=3\/i=4\/i=5\/i=6\/i=7\/i=8\/i=9\/i=10\/i=11\/i=12\/i=13\/i=14\/i=15\/i=16\/i=17\/i=18\/i=19\/i=20\/i=21\/i=22\/i=23\/i=24\/i=25\/i=26\/i=27\/i=28\/i=29\/i=30\/i=31\/i=32\/i=33\/i=34\/i=35\/i=36\/i=37\/i=38\/i=39\/i=40\/i=41\/i=42\/i=43\/i=44\/i=45\/i=46\/i=47\/i=48\/i=49\/i=50\/i=51\/i=52\/i=53\/i=54\/i=55\/i=56\/i=57\/i=58\/i=59\/i=60\/i=61\/i=62\/i=63:=by omega
 rcases h with rfl|rfl|rfl|rfl|rfl|rfl|rfl|rfl|rfl|rfl|rfl|rfl|rfl|rfl|rfl|rfl|rfl|rfl|rfl|rfl|rfl|rfl|rfl|rfl|rfl|rfl|rfl|rfl|rfl|rfl|rfl|rfl|rfl|rfl|rfl|rfl|rfl|rfl|rfl|rfl|rfl|rfl|rfl|rfl|rfl|rfl|rfl|rfl|rfl|rfl|rfl|rfl|rfl|rfl|rfl|rfl|rfl|rfl|rfl|rfl|rfl|rfl|rfl|rfl<;>simp[Kz]
theorem tb(n b i:Nat)(hb:b<256):(n*256+b).testBit i=if i<8 then b.testBit i else n.testBit (i - 8):=by
 have:=Nat.testBit_two_pow_mul_add (a:=n) (b:=b) (i:=8) (by simpa using hb) i
 rw[show n*256+b=2 ^ 8*n+b by omega,this]
theorem bb(n j i:Nat):(n / 2 ^ j % 256).testBit i=(decide (i<8) && n.testBit (j+i)):=by
 rw[show(256:Nat)=2 ^ 8 by rfl,Nat.testBit_mod_two_pow,Nat.testBit_div_two_pow]
 congr 2
 omega
def KD(n:Nat):Nat:=(((((((n % 256)*256+n / 2 ^ 8 % 256)*256+n / 2 ^ 16 % 256)*256+n / 2 ^ 24 % 256)*256+n / 2 ^ 32 % 256)*256+n / 2 ^ 40 % 256)*256+n / 2 ^ 48 % 256)*256+n / 2 ^ 56 % 256
theorem aF(n i:Nat)(hi:i<64):(KD n).testBit i=n.testBit (8*(7 - i / 8)+i % 8):=by
 unfold KD
 have b0:∀k,(n % 256).testBit k=(decide (k<8) && n.testBit k):=λk=>by
  have:=bb n 0 k;simpa using this
 repeat rw[tb _ _ _ (Nat.mod_lt _ (by decide))]
 simp only[bb,b0]
 (repeat' split)<;>(rw[decide_eq_true (by omega),Bool.true_and];congr 1;omega)
theorem iZ(x:BitVec 64):(Kz x).toNat=KD x.toNat:=by
 apply Nat.eq_of_testBit_eq
 intro i
 by_cases hi:i<64
 ·rw[aF _ _ hi];exact iY x i hi
 ·have h1:(Kz x).toNat<2 ^ 64:=(Kz x).isLt;have h2:KD x.toNat<2 ^ 64:=by unfold KD;omega
  rw[Nat.testBit_lt_two_pow (Nat.lt_of_lt_of_le h1 (Nat.pow_le_pow_right (by decide) (by omega))),Nat.testBit_lt_two_pow (Nat.lt_of_lt_of_le h2 (Nat.pow_le_pow_right (by decide) (by omega)))]
end Go.Cmp
namespace Go.Cmp
open Go Go.DI
set_option maxRecDepth 100000
theorem uH{n:Nat}(h:n<65536):KD n / 2 ^ 48=n % 256*256+n / 256:=by unfold KD;omega
theorem uI{n:Nat}(h:n<4294967296):KD n / 2 ^ 32=((n % 256*256+n / 256 % 256)*256+n / 65536 % 256)*256+n / 16777216:=by
 unfold KD
 have h0:n / 2 ^ 32 % 256=0:=by omega
 have h1:n / 2 ^ 40 % 256=0:=by omega
 have h2:n / 2 ^ 48 % 256=0:=by omega
 have h3:n / 2 ^ 56 % 256=0:=by omega
 have h4:n / 2 ^ 24 % 256=n / 16777216:=by omega
 rw[h0,h1,h2,h3,h4,show n / 2 ^ 16=n / 65536 from rfl,show n / 2 ^ 8=n / 256 from rfl]
 generalize ((n % 256*256+n / 256 % 256)*256+n / 65536 % 256)*256+n / 16777216=a
 omega
theorem pU{n:Nat}(h:n<65536):Fk 2 (n:Int)=((KD n / 2 ^ 48:Nat):Int):=by
 rw[uH h]
 have e:Fk 2 (n:Int)=256*(256*0+(n:Int) % 256)+(n:Int) / 256 % 256:=rfl
 rw[e];omega
theorem pV{n:Nat}(h:n<4294967296):Fk 4 (n:Int)=((KD n / 2 ^ 32:Nat):Int):=by
 rw[uI h]
 have e:Fk 4 (n:Int)=256*(256*(256*(256*0+(n:Int) % 256)+(n:Int) / 256 % 256)+(n:Int) / 256 / 256 % 256)+(n:Int) / 256 / 256 / 256 % 256:=rfl
 have h1:(n:Int) / 256 / 256=(n:Int) / 65536:=by omega
 have h2:(n:Int) / 65536 / 256=(n:Int) / 16777216:=by omega
 have n1:n / 256 / 256=n / 65536:=by omega
 have n2:n / 65536 / 256=n / 16777216:=by omega
 have n3:n / 16777216 / 256=0:=by omega
 have n4:(n:Int) / 16777216 / 256=0:=by omega
 rw[e,h1,h2]
 omega
theorem pW{n:Nat}(h:n<18446744073709551616):Fk 8 (n:Int)=((KD n / 2 ^ 0:Nat):Int):=by
 have e:Fk 8 (n:Int)=256*(256*(256*(256*(256*(256*(256*(256*0+(n:Int) % 256)+(n:Int) / 256 % 256)+(n:Int) / 256 / 256 % 256)+(n:Int) / 256 / 256 / 256 % 256)+(n:Int) / 256 / 256 / 256 / 256 % 256)+(n:Int) / 256 / 256 / 256 / 256 / 256 % 256)+(n:Int) / 256 / 256 / 256 / 256 / 256 / 256 % 256)+(n:Int) / 256 / 256 / 256 / 256 / 256 / 256 / 256 % 256:=rfl
 have e2:KD n / 2 ^ 0=(((((((n % 256)*256+n / 256 % 256)*256+n / 256 / 256 % 256)*256+n / 256 / 256 / 256 % 256)*256+n / 256 / 256 / 256 / 256 % 256)*256+n / 256 / 256 / 256 / 256 / 256 % 256)*256+n / 256 / 256 / 256 / 256 / 256 / 256 % 256)*256+n / 256 / 256 / 256 / 256 / 256 / 256 / 256 % 256:=by
  have q2:n / 2 ^ 16=n / 2 ^ 8 / 256:=by rw[Nat.div_div_eq_div_mul]
  have q3:n / 2 ^ 24=n / 2 ^ 16 / 256:=by rw[Nat.div_div_eq_div_mul]
  have q4:n / 2 ^ 32=n / 2 ^ 24 / 256:=by rw[Nat.div_div_eq_div_mul]
  have q5:n / 2 ^ 40=n / 2 ^ 32 / 256:=by rw[Nat.div_div_eq_div_mul]
  have q6:n / 2 ^ 48=n / 2 ^ 40 / 256:=by rw[Nat.div_div_eq_div_mul]
  have q7:n / 2 ^ 56=n / 2 ^ 48 / 256:=by rw[Nat.div_div_eq_div_mul]
  rw[Nat.pow_zero,Nat.div_one];unfold KD;rw[q7,q6,q5,q4,q3,q2]
 rw[e,e2]
 push_cast
 omega
theorem RT{z:Int}{n:Nat}(hz:z=2\/z=4\/z=8)(h:(n:Int)<256 ^ z.toNat):Fk z (n:Int)=(((Kz (BitVec.ofNat 64 n)).toNat / 2 ^ (64 - 8*z.toNat):Nat):Int):=by
 have hn:n<18446744073709551616:=by
  rcases hz with rfl|rfl|rfl
  ·have:(n:Int)<65536:=h;omega
  ·have:(n:Int)<4294967296:=h;omega
  ·have:(n:Int)<18446744073709551616:=h;omega
 rw[iZ,BitVec.toNat_ofNat,Nat.mod_eq_of_lt (by simpa using hn)]
 rcases hz with rfl|rfl|rfl
 ·exact pU (by have:(n:Int)<65536:=h;omega)
 ·exact pV (by have:(n:Int)<4294967296:=h;omega)
 ·exact pW hn
end Go.Cmp
namespace Go.Proofs.YtgjflcgmieiafaaGreatDoor
open Go Go.DI Go.DI.Kit Go.Proofs Go.Cmp
noncomputable section
theorem dh{a:List Value}{b:Bool}(h:K5 a b)(M:Mem):DR Tryz.prog kp 1 20 87 a M=some (.tuple ⟨[.bool b, .int .i64 0]⟩,M):=by
 unfold K5 at h
 split at h
 ·rename_i op x y;obtain⟨hop,rfl⟩:=h
  have key:∀w:Bool,(∀q:Value->Mem->Option (Value×Mem),Y.callK Tryz.prog kp 1 20 87 [.int .i64 op, .bool true, .int .u64 x, .int .u64 y] M q=P1 w M q)->w=DJ op x y->DR Tryz.prog kp 1 20 87 [.int .i64 op, .bool true, .int .u64 x, .int .u64 y] M=some (.tuple ⟨[.bool (DJ op x y), .int .i64 0]⟩,M):=by
   intro w hw e;have h1:=hw λv m=>some (v,m);rw[Y.callK_eq]at h1;have h2:P1 w M (λv m=>some (v,m))=some (.tuple ⟨[.bool w, .int .i64 0]⟩,M):=by cases w<;>rfl
   rw[h2]at h1;cases hc:DR Tryz.prog kp 1 20 87 [.int .i64 op, .bool true, .int .u64 x, .int .u64 y] M with
   |none=>rw[hc]at h1;cases h1
   |some r=>
    obtain⟨v,m⟩:=r;rw[hc]at h1;rw[←e];exact h1
  rcases hop with rfl|rfl|rfl|rfl
  ·refine key _ (λq=>kE x y M q) ?_;unfold DJ;by_cases hxy:x<y
   ·rw[Ef hxy];simp;omega
   ·rw[Ck hxy];simp;omega
  ·refine key _ (λq=>kF x y M q) ?_;unfold DJ;by_cases hxy:x=y
   ·rw[Br hxy];simp[hxy]
   ·rw[Bu hxy];simp[hxy]
  ·refine key _ (λq=>cS x y M q) ?_;unfold DJ;by_cases hxy:x<y
   ·rw[Ef hxy];simp[hxy]
   ·rw[Ck hxy];simp[hxy]
  ·refine key _ (λq=>kG x y M q) ?_;unfold DJ;by_cases hxy:y<x
   ·rw[Ef hxy];simp[hxy]
   ·rw[Ck hxy];simp[hxy]
 ·cases h
theorem Ut{a:List Value}{b c:Bool}(h:K5 a b)(k:K5 a c):b=c:=by
 unfold K5 at h k
 split at h
 ·rw[h.2,k.2]
 ·cases h
theorem OQ:∀{a b:List Int},AH a=AH b->a=b
 | [],[],_=>rfl
 | [],_::_,h=>by simp[AH]at h
 |_::_,[],h=>by simp[AH]at h
 |x::a,y::b,h=>by
  simp only[AH,List.map_cons,List.cons.injEq,Value.int.injEq,true_and]at h;rw[h.1,OQ h.2]
theorem Yk{a:List Value}{x:BH}{N N':Int}(h:S9 a x N)(k:S9 a x N'):N=N':=by
 unfold S9 at h k
 split at h
 ·obtain⟨pk,h1,rfl⟩:=h;obtain⟨pk',k1,rfl⟩:=k;obtain⟨o,ho⟩:=h1.blk;obtain⟨o',ho'⟩:=k1.blk;rw[ho]at ho';simp only[BH.cells.injEq]at ho';rw[OQ ho'.2]
 ·cases h
open Classical in
def oG:CX:=λf a m=>if h:f=87/\∃b,K5 a b then some (.tuple ⟨[.bool h.2.choose, .int .i64 0]⟩,m)
 else if h:f=80/\∃N,∃b,ju a=some b/\S9 a (m.get b) N then some (.tuple ⟨[.int .u64 h.2.choose, .int .i64 0]⟩,m)else none
theorem lG{a:List Value}{b:Bool}(h:K5 a b)(m:Mem):oG 87 a m=some (.tuple ⟨[.bool b, .int .i64 0]⟩,m):=by
 have hc:(87:FuncId)=87/\∃b,K5 a b:=⟨rfl,b,h⟩
 unfold oG
 rw[dif_pos hc,Ut hc.2.choose_spec h]
theorem sB{a:List Value}{N:Int}{b:Nat}{m:Mem}(hb:ju a=some b)(h:S9 a (m.get b) N):oG 80 a m=some (.tuple ⟨[.int .u64 N, .int .i64 0]⟩,m):=by
 have hc:(80:FuncId)=80/\∃N,∃b,ju a=some b/\S9 a (m.get b) N:=⟨rfl,N,b,hb,h⟩
 unfold oG
 rw[dif_neg (by rintro⟨h,_⟩;cases h),dif_pos hc]
 obtain⟨b',hb',h'⟩:=hc.2.choose_spec
 rw[hb]at hb'
 cases hb'
 rw[Yk h' h]
theorem sC{f:FuncId}(h1:f≠87)(h2:f≠80)(a:List Value)(m:Mem):oG f a m=none:=by
 unfold oG
 rw[dif_neg λh=>h1 h.1,dif_neg λh=>h2 h.1]
theorem di:(∀B0,CU Tryz.prog B0 1 oG)/\B9 oG:=Uq λf a m v m' h=>by
 unfold oG at h
 split at h
 ·rename_i hc;simp only[Option.some.injEq,Prod.mk.injEq]at h;obtain⟨rfl,rfl⟩:=h;obtain⟨rfl,hb⟩:=hc;exact⟨DR Tryz.prog kp 1 20,λB0=>KB Bw hK Ee 20,λ_ _ _ _ _ h=>GA 20 _ _ _ _ _ h,dh hb.choose_spec m⟩
 ·split at h<;>simp at h;rename_i hc;obtain⟨rfl,rfl⟩:=h;obtain⟨rfl,hb⟩:=hc;refine⟨CJ Tryz.prog kp 1 oW 20,λB0=>Cr Bw hK Ee (de.1 B0) de.2 20,CL de.2 20,?_⟩;obtain⟨b,h1,h2⟩:=hb.choose_spec
  revert h2
  generalize hb.choose=N;intro h2;unfold S9 at h2;split at h2
  ·rename_i b' sp n c off z _;have h1:some b'=some b:=h1;cases h1;obtain⟨pk,h3,rfl⟩:=h2;exact lF h3
  ·cases h2
def kd:RV->Int
 | .none=>0
 | .num _=>1
 | .ctx=>2
 | .pkt=>3
def nv:RV->Int
 | .num n=>n
 |_=>0
def AR(r:Int->RV):List Value:=AM (kd (r 0)) (nv (r 0)) (kd (r 1)) (nv (r 1)) (kd (r 2)) (nv (r 2)) (kd (r 3)) (nv (r 3)) (kd (r 4)) (nv (r 4)) (kd (r 5)) (nv (r 5)) (kd (r 6)) (nv (r 6)) (kd (r 7)) (nv (r 7)) (kd (r 8)) (nv (r 8)) (kd (r 9)) (nv (r 9))
def Gd(r:Int->RV):Prop:=∀i n,r i= .num n->u64 n
def Fb(pk:List Int)(sp:Option Nat):Value:= .slice (some ⟨3,0,sp⟩) pk.length pk.length
def Gh(l:List Bb)(pk:List Int)(sp:Option Nat)(port:Int)(r:Int->RV)(at_ st:Nat):Mem:=mV (AE l) (AH pk) (AS l.length) (Fb pk sp) port (AR r) (at_:Int) (st:Int) false 0
def CE(l:List Bb)(pk:List Int)(sp:Option Nat)(port:Int)(r:Int->RV)(at_ st:Nat)(over:Bool):Seen:=seenV (.bool true) (AE l) (AH pk) (AS l.length) (Fb pk sp) port (AR r) (at_:Int) (st:Int) over 0
def Wn(l:List Bb)(pk:List Int)(sp:Option Nat)(port:Int)(r:Int->RV)(at_ st:Nat)(r':Int->RV)(at' st':Nat)(over:Bool):Prop:=
 ∃v m,CJ Tryz.prog kp 1 oG 20 28 [.pointer (some ⟨1,0,none⟩)] (Gh l pk sp port r at_ st)=some (v,m)/\S8 v m=CE l pk sp port r' at' st' over
theorem vb{x:List Value}{imm2:Int}{b:Bool}{N:Int}(f:FuncId)(v:Value)(args:List Value)(m:Mem)(hc:(hV x imm2 b N).call f=some v)(hs:(hV x imm2 b N).spec f args (m.get (hV x imm2 b N).blk) v):oG f args m=some (v,m):=by
 rcases hs with⟨rfl,w,rfl,h⟩|⟨rfl,hb,w,rfl,h⟩
 ·exact lG h m
 ·exact sB hb h
theorem sD{x:List Value}{imm2:Int}{b:Bool}{N:Int}(f:FuncId)(hc:(hV x imm2 b N).call f=none)(a:List Value)(m:Mem):oG f a m=none:=
 sC (by rintro rfl;cases hc) (by rintro rfl;cases hc) a m
theorem BV{x:List Value}{imm2:Int}{b:Bool}{N:Int}{M:Mem}{s:Seen}{qs:List Prop}(h:DN (BC x imm2 b N M)=some (s,qs)/\BE (BC x imm2 b N M))(hq:∀p∈qs,p):
  ∃v m,CJ Tryz.prog kp 1 oG 20 28 [.pointer (some ⟨1,0,none⟩)] M=some (v,m)/\S8 v m=s:=
 H.callO_H (H:=hV x imm2 b N) (o:=oG) vb sD (g:=S8) h.1 h.2 hq
theorem Hl{n:Int}(h:EO n):FA n=n:=by
 unfold FA
 rw[wrap_i64 (by have:=h.1;have:=h.2;omega),wrap_u64 ⟨h.1,by have:=h.2;omega⟩]
theorem A7{n:Nat}(h:n<=1000000000):Ct (n:Int)=((n+1:Nat):Int):=wrap_i64 (by show _<=(n:Int)+1/\(n:Int)+1<=_;omega)
theorem GK(x:Bb):(AV x).length=5:=rfl
theorem EK{l:List Bb}{p:Nat}{x:Bb}(hx:l[p]?=some x):GW (p:Int) l.length/\G1 (AE l) (p:Int) (AV x):=by
 have hp:=(List.getElem?_eq_some_iff.1 hx).1
 refine⟨⟨by omega,by omega⟩,AV x,?_,rfl⟩
 have e:Nat.add 0 (Nat.mul ((p:Int)).toNat 5)=p*5:=by show 0+(p:Int).toNat*5=_;omega
 rw[e]
 show(if p*5+5<=(AE l).length then some (((AE l).drop (p*5)).take 5)else none)=_
 have hl:(AE l).length=l.length*5:=Fy GK l
 rw[if_pos (by rw[hl];omega)]
 obtain⟨r,hr⟩:=H4 GK l p x hx
 unfold AE
 rw[hr]
 rfl
theorem Hk(pk:List Int):(AH pk).length=pk.length:=by simp[AH]
end
end Go.Proofs.YtgjflcgmieiafaaGreatDoor
namespace Go.Proofs.YtgjflcgmieiafaaGreatDoor
open Go Go.DI Go.DI.Kit Go.Proofs Go.Cmp
theorem XO(s:Nat):(2:Int) ^ s=((2 ^ s:Nat):Int):=by
 rw[Int.natCast_pow];rfl
theorem TO(n s:Nat)(hs:s<=64):Ld (n:Int) (s:Int)=((n >>> s:Nat):Int):=by
 show(n:Int).fdiv (2 ^ (min ((s:Int)).toNat 64))=_
 have e:min ((s:Int)).toNat 64=s:=by simp;omega
 rw[e,Nat.shiftRight_eq_div_pow,XO,Int.fdiv_eq_ediv_of_nonneg _ (Int.natCast_nonneg _)]
 exact(Int.natCast_ediv n (2 ^ s)).symm
theorem fC(n s:Nat)(hs:s<=64):OJ (n:Int) (s:Int)=((n <<<s % 18446744073709551616:Nat):Int):=by
 show IntKind.wrap .u64 ((n:Int)*2 ^ (min ((s:Int)).toNat 64))=_
 have e:min ((s:Int)).toNat 64=s:=by simp;omega
 have hw:∀x:Int,IntKind.wrap .u64 x=x % 18446744073709551616:=λx=>by simp[IntKind.wrap,IntKind.bits,IntKind.signed]
 rw[e,Nat.shiftLeft_eq,XO,hw,←Int.natCast_mul]
 exact(Int.natCast_emod _ _).symm
theorem XP(a b:BitVec 64):MS (a.toNat:Int) (b.toNat:Int)=((a &&& b).toNat:Int):=by
 have ha:=a.isLt
 have hb:=b.isLt
 have h64:(2:Nat) ^ 64=18446744073709551616:=by decide
 rw[h64]at ha hb
 have:=P9 (a:=(a.toNat:Int)) (b:=(b.toNat:Int)) ⟨by omega,by omega⟩ ⟨by omega,by omega⟩
 unfold MS
 rw[show IntKind.bits .u64=64 from rfl]
 refine this.trans ?_
 unfold Cz
 rw[Int.toNat_natCast,Int.toNat_natCast,BitVec.toNat_and]
theorem fD(a b:BitVec 64):kH (a.toNat:Int) (b.toNat:Int)=((a|||b).toNat:Int):=by
 have ha:=a.isLt
 have hb:=b.isLt
 have h64:(2:Nat) ^ 64=18446744073709551616:=by decide
 rw[h64]at ha hb
 rw[Us ha hb,BitVec.toNat_or]
theorem XQ(a:BitVec 64)(s:Nat)(hs:s<=64):Ld (a.toNat:Int) (s:Int)=((a >>> s).toNat:Int):=by
 rw[TO _ _ hs,BitVec.toNat_ushiftRight]
theorem XR(a:BitVec 64)(s:Nat)(hs:s<=64):OJ (a.toNat:Int) (s:Int)=((a <<<s).toNat:Int):=by
 rw[fC _ _ hs,BitVec.toNat_shiftLeft]
theorem XS(a m:BitVec 64)(s:Nat)(hs:s<=64):ZE (a.toNat:Int) (m.toNat:Int) (s:Int)=((((a >>> s) &&& m)|||((a &&& m)<<<s)).toNat:Int):=by
 unfold ZE
 rw[XQ a s hs,XP,XP,XR _ s hs,fD]
theorem m7(a:BitVec 64):Oe (a.toNat:Int)=((Kz a).toNat:Int):=by
 have h1:=XS a 0x00ff00ff00ff00ff#64 8 (by decide)
 obtain⟨b,hb⟩:∃b:BitVec 64,(a >>> 8 &&& 0x00ff00ff00ff00ff#64)|||((a &&& 0x00ff00ff00ff00ff#64)<<<8)=b:=⟨_,rfl⟩
 rw[hb]at h1
 have h2:=XS b 0x0000ffff0000ffff#64 16 (by decide)
 obtain⟨c,hc⟩:∃c:BitVec 64,(b >>> 16 &&& 0x0000ffff0000ffff#64)|||((b &&& 0x0000ffff0000ffff#64)<<<16)=c:=⟨_,rfl⟩
 rw[hc]at h2
 have e:Kz a=c >>> 32|||c <<<32:=by rw[←hc,←hb];rfl
 have m1:(71777214294589695:Int)=((0x00ff00ff00ff00ff#64).toNat:Int):=by decide
 have m2:(281470681808895:Int)=((0x0000ffff0000ffff#64).toNat:Int):=by decide
 unfold Oe
 rw[m1,m2]
 rw[show ZE (a.toNat:Int) ((0x00ff00ff00ff00ff#64).toNat:Int) 8=(b.toNat:Int)from h1]
 rw[show ZE (b.toNat:Int) ((0x0000ffff0000ffff#64).toNat:Int) 16=(c.toNat:Int)from h2]
 show kH (Ld (c.toNat:Int) ((32:Nat):Int)) (OJ (c.toNat:Int) ((32:Nat):Int))=_
 rw[XQ c 32 (by decide),XR c 32 (by decide),fD,e]
theorem swap_lt{z:Int}{n:Nat}(hz:z=2\/z=4\/z=8)(h:(n:Int)<256 ^ z.toNat):n<18446744073709551616:=by
 rcases hz with rfl|rfl|rfl
 ·have:(n:Int)<65536:=h;omega
 ·have:(n:Int)<4294967296:=h;omega
 ·have:(n:Int)<18446744073709551616:=h;omega
theorem swap_eq{z a:Int}(hz:z=2\/z=4\/z=8)(h0:0<=a)(hl:a<256 ^ z.toNat):Ld (Oe a) (64 - 8*z)=Fk z a:=by
 obtain⟨n,rfl⟩:=Int.eq_ofNat_of_zero_le h0
 have hn:=swap_lt hz hl
 have e:(n:Int)=((BitVec.ofNat 64 n).toNat:Int):=by
  rw[BitVec.toNat_ofNat,Nat.mod_eq_of_lt (by simpa using hn)]
 have hr:Oe (n:Int)=((Kz (BitVec.ofNat 64 n)).toNat:Int):=by
  conv=>lhs;rw[e]
  exact m7 _
 rw[RT hz hl,hr]
 have key:∀s:Nat,s<=64->(64 - 8*z)=(s:Int)->64 - 8*z.toNat=s->Ld (((Kz (BitVec.ofNat 64 n)).toNat:Nat):Int) (64 - 8*z)=(((Kz (BitVec.ofNat 64 n)).toNat / 2 ^ (64 - 8*z.toNat):Nat):Int):=λs h1 h2 h3=>by
  rw[h2,h3,TO _ _ h1,Nat.shiftRight_eq_div_pow]
 rcases hz with rfl|rfl|rfl
 ·exact key 48 (by decide) (by decide) (by decide)
 ·exact key 32 (by decide) (by decide) (by decide)
 ·exact key 0 (by decide) (by decide) (by decide)
theorem ZD{z a:Int}(hz:z=2\/z=4\/z=8)(h0:0<=a)(hl:a<256 ^ z.toNat):u64 (Fk z a):=by
 obtain⟨n,rfl⟩:=Int.eq_ofNat_of_zero_le h0
 rw[RT hz hl]
 have h1:=(Kz (BitVec.ofNat 64 n)).isLt
 have h64:(2:Nat) ^ 64=18446744073709551616:=by decide
 rw[h64]at h1
 have h2:=Nat.div_le_self (Kz (BitVec.ofNat 64 n)).toNat (2 ^ (64 - 8*z.toNat))
 exact⟨Int.natCast_nonneg _,by omega⟩
end Go.Proofs.YtgjflcgmieiafaaGreatDoor
namespace Go.Proofs.YtgjflcgmieiafaaGreatDoor
open Go Go.DI Go.DI.Kit Go.Proofs Go.Cmp
noncomputable section
theorem Gd.set{r:Int->RV}(h:Gd r){d n:Int}(hn:u64 n):Gd (CZ r d (.num n)):=λi k hk=>by
 unfold CZ at hk
 split at hk
 ·cases hk;exact hn
 ·exact h i k hk
theorem Gd.setP{r:Int->RV}(h:Gd r){d:Int}:Gd (CZ r d .pkt):=λi k hk=>by
 unfold CZ at hk
 split at hk
 ·cases hk
 ·exact h i k hk
theorem Gd.copy{r:Int->RV}(h:Gd r)(d s:Int):Gd (CZ r d (r s)):=λi k hk=>by
 unfold CZ at hk
 split at hk
 ·exact h s k hk
 ·exact h i k hk
theorem JD{n:Int}(h:EO n):u64 n:=⟨h.1,by have:=h.2;omega⟩
theorem P7{a b:Int}(ha:u64 a)(hb:u64 b):u64 (Cz a b):=by
 unfold Cz
 have:=Nat.and_le_left (n:=a.toNat) (m:=b.toNat)
 have:=ha.1;have:=ha.2
 exact⟨by omega,by omega⟩
theorem Qz{a b:Int}(ha:u64 a)(hb:u64 b):MS a b=Cz a b:=P9 ha hb
theorem TL{a:Int}(ha:u64 a):MS a 4294967295=a % 4294967296:=by
 rw[Qz ha ⟨by decide,by decide⟩]
 unfold Cz
 obtain⟨n,rfl⟩:=Int.eq_ofNat_of_zero_le ha.1
 have e:n &&& 4294967295=n % 2 ^ 32:=Nat.and_two_pow_sub_one_eq_mod n 32
 show((n &&& 4294967295:Nat):Int)=_
 rw[e];omega
theorem wU(n:Int):IntKind.wrap .u64 n=n % 18446744073709551616:=by simp[IntKind.wrap,IntKind.bits,IntKind.signed]
theorem TM(n:Int):FA n=n % 18446744073709551616:=by
 unfold FA
 rw[wU,IntKind.wrap_i64]
 omega
theorem sm{n:Int}:MS (MS (FA n) 4294967295) 4294967295=n % 4294967296:=by
 have h1:u64 (FA n):=by rw[TM];exact⟨by omega,by omega⟩
 have h2:u64 (FA n % 4294967296):=⟨by omega,by omega⟩
 rw[TL h1,TL h2,TM]
 omega
theorem fB{l h:Int}:kH (IntKind.wrap .u64 (IntKind.wrap .u32 l)) (OJ (IntKind.wrap .u64 (IntKind.wrap .u32 h)) 32)=l % 4294967296+4294967296*(h % 4294967296):=by
 have e1:IntKind.wrap .u64 (IntKind.wrap .u32 l)=l % 4294967296:=by rw[wU,IntKind.wrap_u32];omega
 have e2:IntKind.wrap .u64 (IntKind.wrap .u32 h)=h % 4294967296:=by rw[wU,IntKind.wrap_u32];omega
 rw[e1,e2]
 have e3:OJ (h % 4294967296) 32=h % 4294967296*4294967296:=by
  show IntKind.wrap .u64 (h % 4294967296*2 ^ (min (32:Int).toNat 64))=_;rw[show(2:Int) ^ (min (32:Int).toNat 64)=4294967296 by decide];exact wrap_u64 ⟨by omega,by omega⟩
 rw[e3]
 obtain⟨a,ha⟩:=Int.eq_ofNat_of_zero_le (show 0<=l % 4294967296 by omega)
 obtain⟨b,hb⟩:=Int.eq_ofNat_of_zero_le (show 0<=h % 4294967296 by omega)
 rw[ha,hb,show(b:Int)*4294967296=((b*4294967296:Nat):Int)by omega,Us (by omega) (by omega)]
 have h32:(2:Nat) ^ 32=4294967296:=by decide
 have:=Nat.shiftLeft_add_eq_or_of_lt (a:=b) (b:=a) (i:=32) (by rw[h32];omega)
 rw[Nat.shiftLeft_eq,h32]at this
 rw[Nat.or_comm,←this]
 omega
theorem m6{n:Nat}(h:n<=1000000000):IntKind.wrap .i64 (Int.add (n:Int) 2)=((n+2:Nat):Int):=wrap_i64 (by show _<=(n:Int)+2/\(n:Int)+2<=_;omega)
theorem so{pk:List Int}(h:pk.length<=1000000):IntKind.wrap .u64 (Int.ofNat pk.length)=(pk.length:Int):=wrap_u64 ⟨by show 0<=(pk.length:Int);omega,by show(pk.length:Int)<_;omega⟩
theorem TN{p:Int}(h:0<=p/\p<4294967296):u64 p:=⟨h.1,by omega⟩
theorem sq{o:Nat}(h:o<=1000):TG (o:Int)=(o:Int):=by
 have e:HA (o:Int)=(o:Int):=by
  unfold HA;simp[IntKind.wrap,IntKind.bits,IntKind.signed];omega
 unfold TG
 rw[e,wrap_i64 (x:=(o:Int)) (by omega)]
 rw[wrap_i64 (x:=Int.add 0 (o:Int)) (by show _<=0+(o:Int)/\0+(o:Int)<=_;omega)]
 show 0+(o:Int)=_
 omega
theorem Mm{p q:Nat}{o:Int}(hp:p<=1000000000)(hq:q<=1000000)(h:(q:Int)=(p:Int)+1+o):IntKind.wrap .i64 (Int.add (Ct (p:Int)) (IntKind.wrap .i64 o))=(q:Int):=by
 rw[A7 hp,wrap_i64 (x:=o) (by omega)]
 rw[wrap_i64 (by show _<=((p+1:Nat):Int)+o/\((p+1:Nat):Int)+o<=_;omega)]
 show((p+1:Nat):Int)+o=_
 omega
theorem su{l:List Bb}{p:Nat}{h:Int}(hx:l[p+1]?=some ⟨0,0,0,0,h⟩)(hp:p<=1000000000):GW (Ct (p:Int)) l.length/\H.ldOk (.cells true (AE l)) (Nat.add (Nat.add 0 (Nat.mul (Ct (p:Int)).toNat 5)) 4) false 1 (.int .i32 h):=by
 have hp1:=(List.getElem?_eq_some_iff.1 hx).1
 rw[A7 hp]
 refine⟨⟨by omega,by omega⟩,?_⟩
 have e:Nat.add (Nat.add 0 (Nat.mul (((p+1:Nat):Int)).toNat 5)) 4=(p+1)*5+4:=by show 0+(((p+1:Nat):Int)).toNat*5+4=_;omega
 rw[e]
 show(AE l)[(p+1)*5+4]?=_
 obtain⟨r,hr⟩:=H4 GK l (p+1) _ hx
 have h2:((AE l).drop ((p+1)*5))[4]?=some (.int .i32 h):=by
  unfold AE;rw[hr];rfl
 rw[List.getElem?_drop]at h2
 exact h2
set_option maxHeartbeats 4000000
theorem U8{l:List Bb}{pk:List Int}{sp:Option Nat}{port:Int}{p p' st:Nat}{r r':Int->RV}(hR:Gd r)(hb:∀b∈pk,0<=b/\b<256)(hpk:pk.length<=1000000)(hport:0<=port/\port<4294967296)(hp:p<=1000000000)(hst:st<=1000000000)(hp2:p'<=1000000)
  (h:E6 l pk port p r p' r'):Wn l pk sp port r p st r' p' (st+1) false/\Gd r':=by
 cases h with
 |movI hc hd hn=>
  rename_i d n;obtain⟨q1,q2⟩:=EK hc;rcases hd.1 with rfl|rfl
  ·refine⟨?_,hR.set (JD hn)⟩;have hr:AR r=AM (kd (r 0)) (nv (r 0)) (kd (r 1)) (nv (r 1)) (kd (r 2)) (nv (r 2)) (kd (r 3)) (nv (r 3)) (kd (r 4)) (nv (r 4)) (kd (r 5)) (nv (r 5)) (kd (r 6)) (nv (r 6)) (kd (r 7)) (nv (r 7)) (kd (r 8)) (nv (r 8)) (kd (r 9)) (nv (r 9)):=by unfold AR;rfl
   obtain⟨v,m,h1,h2⟩:=BV (mU (AE l) (AH pk) (Fb pk sp) l.length port (kd (r 0)) (nv (r 0)) (kd (r 1)) (nv (r 1)) (kd (r 2)) (nv (r 2)) (kd (r 3)) (nv (r 3)) (kd (r 4)) (nv (r 4)) (kd (r 5)) (nv (r 5)) (kd (r 6)) (nv (r 6)) (kd (r 7)) (nv (r 7)) (kd (r 8)) (nv (r 8)) (kd (r 9)) (nv (r 9)) (p:Int) (st:Int) n) (by
      intro q hq;rcases List.mem_cons.1 hq with rfl|hq
      ·exact q1
      ·obtain rfl:=List.mem_singleton.1 hq;exact q2)
   refine⟨v,m,?_,?_⟩
   ·unfold Gh;rw[hr];exact h1
   ·rw[h2];unfold CE;rw[Hl hn,A7 hp,A7 hst];rfl
  ·refine⟨?_,hR.set (JD hn)⟩;have hr:AR r=AM (kd (r 0)) (nv (r 0)) (kd (r 1)) (nv (r 1)) (kd (r 2)) (nv (r 2)) (kd (r 3)) (nv (r 3)) (kd (r 4)) (nv (r 4)) (kd (r 5)) (nv (r 5)) (kd (r 6)) (nv (r 6)) (kd (r 7)) (nv (r 7)) (kd (r 8)) (nv (r 8)) (kd (r 9)) (nv (r 9)):=by unfold AR;rfl
   obtain⟨v,m,h1,h2⟩:=BV (mX (AE l) (AH pk) (Fb pk sp) l.length port (kd (r 0)) (nv (r 0)) (kd (r 1)) (nv (r 1)) (kd (r 2)) (nv (r 2)) (kd (r 3)) (nv (r 3)) (kd (r 4)) (nv (r 4)) (kd (r 5)) (nv (r 5)) (kd (r 6)) (nv (r 6)) (kd (r 7)) (nv (r 7)) (kd (r 8)) (nv (r 8)) (kd (r 9)) (nv (r 9)) (p:Int) (st:Int) n) (by
      intro q hq;rcases List.mem_cons.1 hq with rfl|hq
      ·exact q1
      ·obtain rfl:=List.mem_singleton.1 hq;exact q2)
   refine⟨v,m,?_,?_⟩
   ·unfold Gh;rw[hr];exact h1
   ·rw[h2];unfold CE;rw[Hl hn,A7 hp,A7 hst];rfl
 |andI hc hd hn h2=>
  rename_i d n a;obtain⟨q1,q2⟩:=EK hc;obtain rfl:=hd.1;have ha:=hR _ _ h2;refine⟨?_,hR.set (P7 ha (JD hn))⟩;have hr:AR r=AM (kd (r 0)) (nv (r 0)) (kd (r 1)) (nv (r 1)) 1 a (kd (r 3)) (nv (r 3)) (kd (r 4)) (nv (r 4)) (kd (r 5)) (nv (r 5)) (kd (r 6)) (nv (r 6)) (kd (r 7)) (nv (r 7)) (kd (r 8)) (nv (r 8)) (kd (r 9)) (nv (r 9)):=by unfold AR;rw[h2];rfl
  obtain⟨v,m,h1,h2⟩:=BV (sj (AE l) (AH pk) (Fb pk sp) l.length port (kd (r 0)) (nv (r 0)) (kd (r 1)) (nv (r 1)) (kd (r 3)) (nv (r 3)) (kd (r 4)) (nv (r 4)) (kd (r 5)) (nv (r 5)) (kd (r 6)) (nv (r 6)) (kd (r 7)) (nv (r 7)) (kd (r 8)) (nv (r 8)) (kd (r 9)) (nv (r 9)) (p:Int) (st:Int) a n) (by
     intro q hq;rcases List.mem_cons.1 hq with rfl|hq
     ·exact q1
     ·obtain rfl:=List.mem_singleton.1 hq;exact q2)
  refine⟨v,m,?_,?_⟩
  ·unfold Gh;rw[hr];exact h1
  ·rw[h2];unfold CE;rw[Hl hn,Qz ha (JD hn),A7 hp,A7 hst];rfl
 |movR hc hd hm hne=>
  rename_i d s;obtain⟨q1,q2⟩:=EK hc;rcases hm.1 with⟨rfl,rfl⟩|⟨rfl,rfl⟩
  ·refine⟨?_,hR.copy _ _⟩;cases he:r 1 with
   |none=>exact absurd he hne
   |num n=>
    have hr:AR r=AM (kd (r 0)) (nv (r 0)) 1 n (kd (r 2)) (nv (r 2)) (kd (r 3)) (nv (r 3)) (kd (r 4)) (nv (r 4)) (kd (r 5)) (nv (r 5)) (kd (r 6)) (nv (r 6)) (kd (r 7)) (nv (r 7)) (kd (r 8)) (nv (r 8)) (kd (r 9)) (nv (r 9)):=by unfold AR;rw[he];rfl
    obtain⟨v,m,h1,h2⟩:=BV (Yv (AE l) (AH pk) (Fb pk sp) l.length port (kd (r 0)) (nv (r 0)) n (kd (r 2)) (nv (r 2)) (kd (r 3)) (nv (r 3)) (kd (r 4)) (nv (r 4)) (kd (r 5)) (nv (r 5)) (kd (r 6)) (nv (r 6)) (kd (r 7)) (nv (r 7)) (kd (r 8)) (nv (r 8)) (kd (r 9)) (nv (r 9)) (p:Int) (st:Int)) (by
       intro q hq;rcases List.mem_cons.1 hq with rfl|hq
       ·exact q1
       ·obtain rfl:=List.mem_singleton.1 hq;exact q2)
    refine⟨v,m,?_,?_⟩
    ·unfold Gh;rw[hr];exact h1
    ·rw[h2];unfold CE;rw[A7 hp,A7 hst,show AR (CZ r 6 (.num n))=AM (kd (r 0)) (nv (r 0)) (kd (r 1)) (nv (r 1)) (kd (r 2)) (nv (r 2)) (kd (r 3)) (nv (r 3)) (kd (r 4)) (nv (r 4)) (kd (r 5)) (nv (r 5)) 1 n (kd (r 7)) (nv (r 7)) (kd (r 8)) (nv (r 8)) (kd (r 9)) (nv (r 9))from rfl,he];rfl
   |ctx=>
    have hr:AR r=AM (kd (r 0)) (nv (r 0)) 2 0 (kd (r 2)) (nv (r 2)) (kd (r 3)) (nv (r 3)) (kd (r 4)) (nv (r 4)) (kd (r 5)) (nv (r 5)) (kd (r 6)) (nv (r 6)) (kd (r 7)) (nv (r 7)) (kd (r 8)) (nv (r 8)) (kd (r 9)) (nv (r 9)):=by unfold AR;rw[he];rfl
    obtain⟨v,m,h1,h2⟩:=BV (ZB (AE l) (AH pk) (Fb pk sp) l.length port (kd (r 0)) (nv (r 0)) 0 (kd (r 2)) (nv (r 2)) (kd (r 3)) (nv (r 3)) (kd (r 4)) (nv (r 4)) (kd (r 5)) (nv (r 5)) (kd (r 6)) (nv (r 6)) (kd (r 7)) (nv (r 7)) (kd (r 8)) (nv (r 8)) (kd (r 9)) (nv (r 9)) (p:Int) (st:Int)) (by
       intro q hq;rcases List.mem_cons.1 hq with rfl|hq
       ·exact q1
       ·obtain rfl:=List.mem_singleton.1 hq;exact q2)
    refine⟨v,m,?_,?_⟩
    ·unfold Gh;rw[hr];exact h1
    ·rw[h2];unfold CE;rw[A7 hp,A7 hst,show AR (CZ r 6 .ctx)=AM (kd (r 0)) (nv (r 0)) (kd (r 1)) (nv (r 1)) (kd (r 2)) (nv (r 2)) (kd (r 3)) (nv (r 3)) (kd (r 4)) (nv (r 4)) (kd (r 5)) (nv (r 5)) 2 0 (kd (r 7)) (nv (r 7)) (kd (r 8)) (nv (r 8)) (kd (r 9)) (nv (r 9))from rfl,he];rfl
   |pkt=>
    have hr:AR r=AM (kd (r 0)) (nv (r 0)) 3 0 (kd (r 2)) (nv (r 2)) (kd (r 3)) (nv (r 3)) (kd (r 4)) (nv (r 4)) (kd (r 5)) (nv (r 5)) (kd (r 6)) (nv (r 6)) (kd (r 7)) (nv (r 7)) (kd (r 8)) (nv (r 8)) (kd (r 9)) (nv (r 9)):=by unfold AR;rw[he];rfl
    obtain⟨v,m,h1,h2⟩:=BV (Yz (AE l) (AH pk) (Fb pk sp) l.length port (kd (r 0)) (nv (r 0)) 0 (kd (r 2)) (nv (r 2)) (kd (r 3)) (nv (r 3)) (kd (r 4)) (nv (r 4)) (kd (r 5)) (nv (r 5)) (kd (r 6)) (nv (r 6)) (kd (r 7)) (nv (r 7)) (kd (r 8)) (nv (r 8)) (kd (r 9)) (nv (r 9)) (p:Int) (st:Int)) (by
       intro q hq;rcases List.mem_cons.1 hq with rfl|hq
       ·exact q1
       ·obtain rfl:=List.mem_singleton.1 hq;exact q2)
    refine⟨v,m,?_,?_⟩
    ·unfold Gh;rw[hr];exact h1
    ·rw[h2];unfold CE;rw[A7 hp,A7 hst,show AR (CZ r 6 .pkt)=AM (kd (r 0)) (nv (r 0)) (kd (r 1)) (nv (r 1)) (kd (r 2)) (nv (r 2)) (kd (r 3)) (nv (r 3)) (kd (r 4)) (nv (r 4)) (kd (r 5)) (nv (r 5)) 3 0 (kd (r 7)) (nv (r 7)) (kd (r 8)) (nv (r 8)) (kd (r 9)) (nv (r 9))from rfl,he];rfl
  ·refine⟨?_,hR.copy _ _⟩;cases he:r 8 with
   |none=>exact absurd he hne
   |num n=>
    have hr:AR r=AM (kd (r 0)) (nv (r 0)) (kd (r 1)) (nv (r 1)) (kd (r 2)) (nv (r 2)) (kd (r 3)) (nv (r 3)) (kd (r 4)) (nv (r 4)) (kd (r 5)) (nv (r 5)) (kd (r 6)) (nv (r 6)) (kd (r 7)) (nv (r 7)) 1 n (kd (r 9)) (nv (r 9)):=by unfold AR;rw[he];rfl
    obtain⟨v,m,h1,h2⟩:=BV (Yy (AE l) (AH pk) (Fb pk sp) l.length port (kd (r 0)) (nv (r 0)) (kd (r 1)) (nv (r 1)) (kd (r 2)) (nv (r 2)) (kd (r 3)) (nv (r 3)) (kd (r 4)) (nv (r 4)) (kd (r 5)) (nv (r 5)) (kd (r 6)) (nv (r 6)) (kd (r 7)) (nv (r 7)) n (kd (r 9)) (nv (r 9)) (p:Int) (st:Int)) (by
       intro q hq;rcases List.mem_cons.1 hq with rfl|hq
       ·exact q1
       ·obtain rfl:=List.mem_singleton.1 hq;exact q2)
    refine⟨v,m,?_,?_⟩
    ·unfold Gh;rw[hr];exact h1
    ·rw[h2];unfold CE;rw[A7 hp,A7 hst,show AR (CZ r 2 (.num n))=AM (kd (r 0)) (nv (r 0)) (kd (r 1)) (nv (r 1)) 1 n (kd (r 3)) (nv (r 3)) (kd (r 4)) (nv (r 4)) (kd (r 5)) (nv (r 5)) (kd (r 6)) (nv (r 6)) (kd (r 7)) (nv (r 7)) (kd (r 8)) (nv (r 8)) (kd (r 9)) (nv (r 9))from rfl,he];rfl
   |ctx=>
    have hr:AR r=AM (kd (r 0)) (nv (r 0)) (kd (r 1)) (nv (r 1)) (kd (r 2)) (nv (r 2)) (kd (r 3)) (nv (r 3)) (kd (r 4)) (nv (r 4)) (kd (r 5)) (nv (r 5)) (kd (r 6)) (nv (r 6)) (kd (r 7)) (nv (r 7)) 2 0 (kd (r 9)) (nv (r 9)):=by unfold AR;rw[he];rfl
    obtain⟨v,m,h1,h2⟩:=BV (Yw (AE l) (AH pk) (Fb pk sp) l.length port (kd (r 0)) (nv (r 0)) (kd (r 1)) (nv (r 1)) (kd (r 2)) (nv (r 2)) (kd (r 3)) (nv (r 3)) (kd (r 4)) (nv (r 4)) (kd (r 5)) (nv (r 5)) (kd (r 6)) (nv (r 6)) (kd (r 7)) (nv (r 7)) 0 (kd (r 9)) (nv (r 9)) (p:Int) (st:Int)) (by
       intro q hq;rcases List.mem_cons.1 hq with rfl|hq
       ·exact q1
       ·obtain rfl:=List.mem_singleton.1 hq;exact q2)
    refine⟨v,m,?_,?_⟩
    ·unfold Gh;rw[hr];exact h1
    ·rw[h2];unfold CE;rw[A7 hp,A7 hst,show AR (CZ r 2 .ctx)=AM (kd (r 0)) (nv (r 0)) (kd (r 1)) (nv (r 1)) 2 0 (kd (r 3)) (nv (r 3)) (kd (r 4)) (nv (r 4)) (kd (r 5)) (nv (r 5)) (kd (r 6)) (nv (r 6)) (kd (r 7)) (nv (r 7)) (kd (r 8)) (nv (r 8)) (kd (r 9)) (nv (r 9))from rfl,he];rfl
   |pkt=>
    have hr:AR r=AM (kd (r 0)) (nv (r 0)) (kd (r 1)) (nv (r 1)) (kd (r 2)) (nv (r 2)) (kd (r 3)) (nv (r 3)) (kd (r 4)) (nv (r 4)) (kd (r 5)) (nv (r 5)) (kd (r 6)) (nv (r 6)) (kd (r 7)) (nv (r 7)) 3 0 (kd (r 9)) (nv (r 9)):=by unfold AR;rw[he];rfl
    obtain⟨v,m,h1,h2⟩:=BV (ZC (AE l) (AH pk) (Fb pk sp) l.length port (kd (r 0)) (nv (r 0)) (kd (r 1)) (nv (r 1)) (kd (r 2)) (nv (r 2)) (kd (r 3)) (nv (r 3)) (kd (r 4)) (nv (r 4)) (kd (r 5)) (nv (r 5)) (kd (r 6)) (nv (r 6)) (kd (r 7)) (nv (r 7)) 0 (kd (r 9)) (nv (r 9)) (p:Int) (st:Int)) (by
       intro q hq;rcases List.mem_cons.1 hq with rfl|hq
       ·exact q1
       ·obtain rfl:=List.mem_singleton.1 hq;exact q2)
    refine⟨v,m,?_,?_⟩
    ·unfold Gh;rw[hr];exact h1
    ·rw[h2];unfold CE;rw[A7 hp,A7 hst,show AR (CZ r 2 .pkt)=AM (kd (r 0)) (nv (r 0)) (kd (r 1)) (nv (r 1)) 3 0 (kd (r 3)) (nv (r 3)) (kd (r 4)) (nv (r 4)) (kd (r 5)) (nv (r 5)) (kd (r 6)) (nv (r 6)) (kd (r 7)) (nv (r 7)) (kd (r 8)) (nv (r 8)) (kd (r 9)) (nv (r 9))from rfl,he];rfl
 |andR hc hd hm h2 h3=>
  rename_i d s a c;obtain⟨q1,q2⟩:=EK hc;obtain⟨⟨rfl,rfl⟩,_⟩:=hm;have ha:=hR _ _ h2;have hb:=hR _ _ h3;refine⟨?_,hR.set (P7 ha hb)⟩;have hr:AR r=AM (kd (r 0)) (nv (r 0)) (kd (r 1)) (nv (r 1)) 1 a 1 c (kd (r 4)) (nv (r 4)) (kd (r 5)) (nv (r 5)) (kd (r 6)) (nv (r 6)) (kd (r 7)) (nv (r 7)) (kd (r 8)) (nv (r 8)) (kd (r 9)) (nv (r 9)):=by unfold AR;rw[h2,h3];rfl
  obtain⟨v,m,h1,h2⟩:=BV (sf (AE l) (AH pk) (Fb pk sp) l.length port (kd (r 0)) (nv (r 0)) (kd (r 1)) (nv (r 1)) (kd (r 4)) (nv (r 4)) (kd (r 5)) (nv (r 5)) (kd (r 6)) (nv (r 6)) (kd (r 7)) (nv (r 7)) (kd (r 8)) (nv (r 8)) (kd (r 9)) (nv (r 9)) (p:Int) (st:Int) a c) (by
     intro q hq;rcases List.mem_cons.1 hq with rfl|hq
     ·exact q1
     ·obtain rfl:=List.mem_singleton.1 hq;exact q2)
  refine⟨v,m,?_,?_⟩
  ·unfold Gh;rw[hr];exact h1
  ·rw[h2];unfold CE;rw[Qz ha hb,A7 hp,A7 hst];rw[show AR (CZ r 2 (.num (Cz a c)))=AM (kd (r 0)) (nv (r 0)) (kd (r 1)) (nv (r 1)) 1 (Cz a c) (kd (r 3)) (nv (r 3)) (kd (r 4)) (nv (r 4)) (kd (r 5)) (nv (r 5)) (kd (r 6)) (nv (r 6)) (kd (r 7)) (nv (r 7)) (kd (r 8)) (nv (r 8)) (kd (r 9)) (nv (r 9))from rfl,h3];rfl
 |low hc=>
  rename_i n;obtain⟨q1,q2⟩:=EK hc;refine⟨?_,hR.set (by unfold u64;omega)⟩;have hr:AR r=AM (kd (r 0)) (nv (r 0)) (kd (r 1)) (nv (r 1)) (kd (r 2)) (nv (r 2)) (kd (r 3)) (nv (r 3)) (kd (r 4)) (nv (r 4)) (kd (r 5)) (nv (r 5)) (kd (r 6)) (nv (r 6)) (kd (r 7)) (nv (r 7)) (kd (r 8)) (nv (r 8)) (kd (r 9)) (nv (r 9)):=by unfold AR;rfl
  obtain⟨v,m,h1,h2⟩:=BV (wD (AE l) (AH pk) (Fb pk sp) l.length port (kd (r 0)) (nv (r 0)) (kd (r 1)) (nv (r 1)) (kd (r 2)) (nv (r 2)) (kd (r 3)) (nv (r 3)) (kd (r 4)) (nv (r 4)) (kd (r 5)) (nv (r 5)) (kd (r 6)) (nv (r 6)) (kd (r 7)) (nv (r 7)) (kd (r 8)) (nv (r 8)) (kd (r 9)) (nv (r 9)) (p:Int) (st:Int) n) (by
     intro q hq;rcases List.mem_cons.1 hq with rfl|hq
     ·exact q1
     ·obtain rfl:=List.mem_singleton.1 hq;exact q2)
  refine⟨v,m,?_,?_⟩
  ·unfold Gh;rw[hr];exact h1
  ·rw[h2];unfold CE;rw[sm,A7 hp,A7 hst];rfl
 |const hc hc2=>
  rename_i lo hi;obtain⟨q1,q2⟩:=EK hc;obtain⟨q3,q4⟩:=su hc2 (by omega);refine⟨?_,hR.set (by unfold u64;omega)⟩;have hr:AR r=AM (kd (r 0)) (nv (r 0)) (kd (r 1)) (nv (r 1)) (kd (r 2)) (nv (r 2)) (kd (r 3)) (nv (r 3)) (kd (r 4)) (nv (r 4)) (kd (r 5)) (nv (r 5)) (kd (r 6)) (nv (r 6)) (kd (r 7)) (nv (r 7)) (kd (r 8)) (nv (r 8)) (kd (r 9)) (nv (r 9)):=by unfold AR;rfl
  obtain⟨v,m,h1,h2⟩:=BV (m3 (AE l) (AH pk) (Fb pk sp) l.length port (kd (r 0)) (nv (r 0)) (kd (r 1)) (nv (r 1)) (kd (r 2)) (nv (r 2)) (kd (r 3)) (nv (r 3)) (kd (r 4)) (nv (r 4)) (kd (r 5)) (nv (r 5)) (kd (r 6)) (nv (r 6)) (kd (r 7)) (nv (r 7)) (kd (r 8)) (nv (r 8)) (kd (r 9)) (nv (r 9)) (p:Int) (st:Int) lo hi) (by
     intro q hq;rcases List.mem_cons.1 hq with rfl|hq
     ·exact q1
     ·rcases List.mem_cons.1 hq with rfl|hq
      ·exact q2
      ·rcases List.mem_cons.1 hq with rfl|hq
       ·exact q3
       ·obtain rfl:=List.mem_singleton.1 hq;exact q4)
  refine⟨v,m,?_,?_⟩
  ·unfold Gh;rw[hr];exact h1
  ·rw[h2];unfold CE;rw[fB,m6 hp,A7 hst];rfl
 |ldLen hc hd hm he=>
  rename_i d s;obtain⟨q1,q2⟩:=EK hc;obtain⟨⟨rfl,rfl⟩,_⟩:=hm;refine⟨?_,hR.set (by unfold u64;omega)⟩;have hr:AR r=AM (kd (r 0)) (nv (r 0)) (kd (r 1)) (nv (r 1)) (kd (r 2)) (nv (r 2)) (kd (r 3)) (nv (r 3)) (kd (r 4)) (nv (r 4)) (kd (r 5)) (nv (r 5)) 2 0 (kd (r 7)) (nv (r 7)) (kd (r 8)) (nv (r 8)) (kd (r 9)) (nv (r 9)):=by unfold AR;rw[he];rfl
  obtain⟨v,m,h1,h2⟩:=BV (m4 (AE l) (AH pk) (some ⟨3,0,sp⟩) pk.length pk.length l.length port (kd (r 0)) (nv (r 0)) (kd (r 1)) (nv (r 1)) (kd (r 2)) (nv (r 2)) (kd (r 3)) (nv (r 3)) (kd (r 4)) (nv (r 4)) (kd (r 5)) (nv (r 5)) 0 (kd (r 7)) (nv (r 7)) (kd (r 8)) (nv (r 8)) (kd (r 9)) (nv (r 9)) (p:Int) (st:Int)) (by
     intro q hq;rcases List.mem_cons.1 hq with rfl|hq
     ·exact q1
     ·obtain rfl:=List.mem_singleton.1 hq;exact q2)
  refine⟨v,m,?_,?_⟩
  ·unfold Gh;rw[hr];exact h1
  ·rw[h2];unfold CE;rw[so hpk,A7 hp,A7 hst,show AR (CZ r 8 (.num pk.length))=AM (kd (r 0)) (nv (r 0)) (kd (r 1)) (nv (r 1)) (kd (r 2)) (nv (r 2)) (kd (r 3)) (nv (r 3)) (kd (r 4)) (nv (r 4)) (kd (r 5)) (nv (r 5)) (kd (r 6)) (nv (r 6)) (kd (r 7)) (nv (r 7)) 1 (pk.length:Int) (kd (r 9)) (nv (r 9))from rfl,he];rfl
 |ldPort hc hd hm he=>
  rename_i d s;obtain⟨q1,q2⟩:=EK hc;obtain⟨⟨rfl,rfl⟩,_⟩:=hm;refine⟨?_,hR.set (TN hport)⟩;have hr:AR r=AM (kd (r 0)) (nv (r 0)) (kd (r 1)) (nv (r 1)) (kd (r 2)) (nv (r 2)) (kd (r 3)) (nv (r 3)) (kd (r 4)) (nv (r 4)) (kd (r 5)) (nv (r 5)) 2 0 (kd (r 7)) (nv (r 7)) (kd (r 8)) (nv (r 8)) (kd (r 9)) (nv (r 9)):=by unfold AR;rw[he];rfl
  obtain⟨v,m,h1,h2⟩:=BV (ey (AE l) (AH pk) (Fb pk sp) l.length port (kd (r 0)) (nv (r 0)) (kd (r 1)) (nv (r 1)) (kd (r 2)) (nv (r 2)) (kd (r 3)) (nv (r 3)) (kd (r 4)) (nv (r 4)) (kd (r 5)) (nv (r 5)) 0 (kd (r 7)) (nv (r 7)) (kd (r 8)) (nv (r 8)) (kd (r 9)) (nv (r 9)) (p:Int) (st:Int)) (by
     intro q hq;rcases List.mem_cons.1 hq with rfl|hq
     ·exact q1
     ·obtain rfl:=List.mem_singleton.1 hq;exact q2)
  refine⟨v,m,?_,?_⟩
  ·unfold Gh;rw[hr];exact h1
  ·rw[h2];unfold CE;rw[wrap_u64 (TN hport),A7 hp,A7 hst,show AR (CZ r 2 (.num port))=AM (kd (r 0)) (nv (r 0)) (kd (r 1)) (nv (r 1)) 1 port (kd (r 3)) (nv (r 3)) (kd (r 4)) (nv (r 4)) (kd (r 5)) (nv (r 5)) (kd (r 6)) (nv (r 6)) (kd (r 7)) (nv (r 7)) (kd (r 8)) (nv (r 8)) (kd (r 9)) (nv (r 9))from rfl,he];rfl
 |ldPkt hc hd hm he=>
  rename_i d s;obtain⟨q1,q2⟩:=EK hc;obtain⟨⟨rfl,rfl⟩,_⟩:=hm;refine⟨?_,hR.setP⟩;have hr:AR r=AM (kd (r 0)) (nv (r 0)) 2 0 (kd (r 2)) (nv (r 2)) (kd (r 3)) (nv (r 3)) (kd (r 4)) (nv (r 4)) (kd (r 5)) (nv (r 5)) (kd (r 6)) (nv (r 6)) (kd (r 7)) (nv (r 7)) (kd (r 8)) (nv (r 8)) (kd (r 9)) (nv (r 9)):=by unfold AR;rw[he];rfl
  obtain⟨v,m,h1,h2⟩:=BV (mY (AE l) (AH pk) (Fb pk sp) l.length port (kd (r 0)) (nv (r 0)) 0 (kd (r 2)) (nv (r 2)) (kd (r 3)) (nv (r 3)) (kd (r 4)) (nv (r 4)) (kd (r 5)) (nv (r 5)) (kd (r 6)) (nv (r 6)) (kd (r 7)) (nv (r 7)) (kd (r 8)) (nv (r 8)) (kd (r 9)) (nv (r 9)) (p:Int) (st:Int)) (by
     intro q hq;rcases List.mem_cons.1 hq with rfl|hq
     ·exact q1
     ·obtain rfl:=List.mem_singleton.1 hq;exact q2)
  refine⟨v,m,?_,?_⟩
  ·unfold Gh;rw[hr];exact h1
  ·rw[h2];unfold CE;rw[A7 hp,A7 hst,show AR (CZ r 7 (.pkt))=AM (kd (r 0)) (nv (r 0)) (kd (r 1)) (nv (r 1)) (kd (r 2)) (nv (r 2)) (kd (r 3)) (nv (r 3)) (kd (r 4)) (nv (r 4)) (kd (r 5)) (nv (r 5)) (kd (r 6)) (nv (r 6)) 3 0 (kd (r 8)) (nv (r 8)) (kd (r 9)) (nv (r 9))from rfl,he];rfl
 |ld hc hz hd hm he ho hl=>
  rename_i z d s o;obtain⟨q1,q2⟩:=EK hc;obtain⟨⟨rfl,rfl⟩,_⟩:=hm;have hzb:1<=z/\z<=8:=by rcases hz with h|h|h|h<;>omega
  have hN:=XH (pk:=pk) (a:=o) (z:=z.toNat) hb hl
  have hN8:Eh (cut pk o z.toNat)<18446744073709551616:=by
   rcases hz with rfl|rfl|rfl|rfl<;>exact Int.lt_of_lt_of_le hN.2 (by decide)
  refine⟨?_,hR.set ⟨hN.1,hN8⟩⟩;have hoff:TG (o:Int)=(o:Int):=sq ho
  have q3:D3 80 [Fb pk sp, .int .i64 (TG o), .int .i64 z] (.cells true (AH pk)) (.tuple ⟨[.int .u64 (Eh (cut pk o z.toNat)), .int .i64 0]⟩):=by
   rw[hoff];exact .inr ⟨rfl,rfl,_,rfl,pk,⟨⟨true,rfl⟩,hb,rfl,hz,by omega,by omega,by omega⟩,rfl⟩
  have hr:AR r=AM (kd (r 0)) (nv (r 0)) (kd (r 1)) (nv (r 1)) (kd (r 2)) (nv (r 2)) (kd (r 3)) (nv (r 3)) (kd (r 4)) (nv (r 4)) (kd (r 5)) (nv (r 5)) (kd (r 6)) (nv (r 6)) 3 0 (kd (r 8)) (nv (r 8)) (kd (r 9)) (nv (r 9)):=by unfold AR;rw[he];rfl
  rcases hz with rfl|rfl|rfl|rfl
  ·obtain⟨v,m,h1,h2⟩:=BV (wF (AE l) (AH pk) (some ⟨3,0,sp⟩) pk.length pk.length l.length port (kd (r 0)) (nv (r 0)) (kd (r 1)) (nv (r 1)) (kd (r 2)) (nv (r 2)) (kd (r 3)) (nv (r 3)) (kd (r 4)) (nv (r 4)) (kd (r 5)) (nv (r 5)) (kd (r 6)) (nv (r 6)) 0 (kd (r 8)) (nv (r 8)) (kd (r 9)) (nv (r 9)) (p:Int) (st:Int) (o:Int) _) (by
      intro q hq;rcases List.mem_cons.1 hq with rfl|hq
      ·exact q1
      ·rcases List.mem_cons.1 hq with rfl|hq
       ·exact q2
       ·obtain rfl:=List.mem_singleton.1 hq;exact q3)
   refine⟨v,m,?_,?_⟩
   ·unfold Gh;rw[hr];exact h1
   ·rw[h2];unfold CE;rw[A7 hp,A7 hst,show AR (CZ r 2 (.num (Eh (cut pk o (1:Int).toNat))))=AM (kd (r 0)) (nv (r 0)) (kd (r 1)) (nv (r 1)) 1 (Eh (cut pk o (1:Int).toNat)) (kd (r 3)) (nv (r 3)) (kd (r 4)) (nv (r 4)) (kd (r 5)) (nv (r 5)) (kd (r 6)) (nv (r 6)) (kd (r 7)) (nv (r 7)) (kd (r 8)) (nv (r 8)) (kd (r 9)) (nv (r 9))from rfl,he];rfl
  ·obtain⟨v,m,h1,h2⟩:=BV (wC (AE l) (AH pk) (some ⟨3,0,sp⟩) pk.length pk.length l.length port (kd (r 0)) (nv (r 0)) (kd (r 1)) (nv (r 1)) (kd (r 2)) (nv (r 2)) (kd (r 3)) (nv (r 3)) (kd (r 4)) (nv (r 4)) (kd (r 5)) (nv (r 5)) (kd (r 6)) (nv (r 6)) 0 (kd (r 8)) (nv (r 8)) (kd (r 9)) (nv (r 9)) (p:Int) (st:Int) (o:Int) _) (by
      intro q hq;rcases List.mem_cons.1 hq with rfl|hq
      ·exact q1
      ·rcases List.mem_cons.1 hq with rfl|hq
       ·exact q2
       ·obtain rfl:=List.mem_singleton.1 hq;exact q3)
   refine⟨v,m,?_,?_⟩
   ·unfold Gh;rw[hr];exact h1
   ·rw[h2];unfold CE;rw[A7 hp,A7 hst,show AR (CZ r 2 (.num (Eh (cut pk o (2:Int).toNat))))=AM (kd (r 0)) (nv (r 0)) (kd (r 1)) (nv (r 1)) 1 (Eh (cut pk o (2:Int).toNat)) (kd (r 3)) (nv (r 3)) (kd (r 4)) (nv (r 4)) (kd (r 5)) (nv (r 5)) (kd (r 6)) (nv (r 6)) (kd (r 7)) (nv (r 7)) (kd (r 8)) (nv (r 8)) (kd (r 9)) (nv (r 9))from rfl,he];rfl
  ·obtain⟨v,m,h1,h2⟩:=BV (wE (AE l) (AH pk) (some ⟨3,0,sp⟩) pk.length pk.length l.length port (kd (r 0)) (nv (r 0)) (kd (r 1)) (nv (r 1)) (kd (r 2)) (nv (r 2)) (kd (r 3)) (nv (r 3)) (kd (r 4)) (nv (r 4)) (kd (r 5)) (nv (r 5)) (kd (r 6)) (nv (r 6)) 0 (kd (r 8)) (nv (r 8)) (kd (r 9)) (nv (r 9)) (p:Int) (st:Int) (o:Int) _) (by
      intro q hq;rcases List.mem_cons.1 hq with rfl|hq
      ·exact q1
      ·rcases List.mem_cons.1 hq with rfl|hq
       ·exact q2
       ·obtain rfl:=List.mem_singleton.1 hq;exact q3)
   refine⟨v,m,?_,?_⟩
   ·unfold Gh;rw[hr];exact h1
   ·rw[h2];unfold CE;rw[A7 hp,A7 hst,show AR (CZ r 2 (.num (Eh (cut pk o (4:Int).toNat))))=AM (kd (r 0)) (nv (r 0)) (kd (r 1)) (nv (r 1)) 1 (Eh (cut pk o (4:Int).toNat)) (kd (r 3)) (nv (r 3)) (kd (r 4)) (nv (r 4)) (kd (r 5)) (nv (r 5)) (kd (r 6)) (nv (r 6)) (kd (r 7)) (nv (r 7)) (kd (r 8)) (nv (r 8)) (kd (r 9)) (nv (r 9))from rfl,he];rfl
  ·obtain⟨v,m,h1,h2⟩:=BV (wG (AE l) (AH pk) (some ⟨3,0,sp⟩) pk.length pk.length l.length port (kd (r 0)) (nv (r 0)) (kd (r 1)) (nv (r 1)) (kd (r 2)) (nv (r 2)) (kd (r 3)) (nv (r 3)) (kd (r 4)) (nv (r 4)) (kd (r 5)) (nv (r 5)) (kd (r 6)) (nv (r 6)) 0 (kd (r 8)) (nv (r 8)) (kd (r 9)) (nv (r 9)) (p:Int) (st:Int) (o:Int) _) (by
      intro q hq;rcases List.mem_cons.1 hq with rfl|hq
      ·exact q1
      ·rcases List.mem_cons.1 hq with rfl|hq
       ·exact q2
       ·obtain rfl:=List.mem_singleton.1 hq;exact q3)
   refine⟨v,m,?_,?_⟩
   ·unfold Gh;rw[hr];exact h1
   ·rw[h2];unfold CE;rw[A7 hp,A7 hst,show AR (CZ r 2 (.num (Eh (cut pk o (8:Int).toNat))))=AM (kd (r 0)) (nv (r 0)) (kd (r 1)) (nv (r 1)) 1 (Eh (cut pk o (8:Int).toNat)) (kd (r 3)) (nv (r 3)) (kd (r 4)) (nv (r 4)) (kd (r 5)) (nv (r 5)) (kd (r 6)) (nv (r 6)) (kd (r 7)) (nv (r 7)) (kd (r 8)) (nv (r 8)) (kd (r 9)) (nv (r 9))from rfl,he];rfl
 |swap hc hz hz1 he h0 hl=>
  rename_i z a;obtain⟨q1,q2⟩:=EK hc;have hz3:z=2\/z=4\/z=8:=by rcases hz with h|h|h|h<;>omega
  have hs:=swap_eq hz3 h0 hl;have hsw:=ZD hz3 h0 hl;refine⟨?_,hR.set hsw⟩;have hr:AR r=AM (kd (r 0)) (nv (r 0)) (kd (r 1)) (nv (r 1)) 1 a (kd (r 3)) (nv (r 3)) (kd (r 4)) (nv (r 4)) (kd (r 5)) (nv (r 5)) (kd (r 6)) (nv (r 6)) (kd (r 7)) (nv (r 7)) (kd (r 8)) (nv (r 8)) (kd (r 9)) (nv (r 9)):=by unfold AR;rw[he];rfl
  rcases hz3 with rfl|rfl|rfl
  ·obtain⟨v,m,h1,h2⟩:=BV (mW (AE l) (AH pk) (Fb pk sp) l.length port (kd (r 0)) (nv (r 0)) (kd (r 1)) (nv (r 1)) (kd (r 3)) (nv (r 3)) (kd (r 4)) (nv (r 4)) (kd (r 5)) (nv (r 5)) (kd (r 6)) (nv (r 6)) (kd (r 7)) (nv (r 7)) (kd (r 8)) (nv (r 8)) (kd (r 9)) (nv (r 9)) (p:Int) (st:Int) a) (by
      intro q hq;rcases List.mem_cons.1 hq with rfl|hq
      ·exact q1
      ·obtain rfl:=List.mem_singleton.1 hq;exact q2)
   refine⟨v,m,?_,?_⟩
   ·unfold Gh;rw[hr];exact h1
   ·rw[h2];unfold CE;rw[show Ld (Oe a) 48=Fk 2 a from hs,A7 hp,A7 hst];rfl
  ·obtain⟨v,m,h1,h2⟩:=BV (mZ (AE l) (AH pk) (Fb pk sp) l.length port (kd (r 0)) (nv (r 0)) (kd (r 1)) (nv (r 1)) (kd (r 3)) (nv (r 3)) (kd (r 4)) (nv (r 4)) (kd (r 5)) (nv (r 5)) (kd (r 6)) (nv (r 6)) (kd (r 7)) (nv (r 7)) (kd (r 8)) (nv (r 8)) (kd (r 9)) (nv (r 9)) (p:Int) (st:Int) a) (by
      intro q hq;rcases List.mem_cons.1 hq with rfl|hq
      ·exact q1
      ·obtain rfl:=List.mem_singleton.1 hq;exact q2)
   refine⟨v,m,?_,?_⟩
   ·unfold Gh;rw[hr];exact h1
   ·rw[h2];unfold CE;rw[show Ld (Oe a) 32=Fk 4 a from hs,A7 hp,A7 hst];rfl
  ·obtain⟨v,m,h1,h2⟩:=BV (m5 (AE l) (AH pk) (Fb pk sp) l.length port (kd (r 0)) (nv (r 0)) (kd (r 1)) (nv (r 1)) (kd (r 3)) (nv (r 3)) (kd (r 4)) (nv (r 4)) (kd (r 5)) (nv (r 5)) (kd (r 6)) (nv (r 6)) (kd (r 7)) (nv (r 7)) (kd (r 8)) (nv (r 8)) (kd (r 9)) (nv (r 9)) (p:Int) (st:Int) a) (by
      intro q hq;rcases List.mem_cons.1 hq with rfl|hq
      ·exact q1
      ·obtain rfl:=List.mem_singleton.1 hq;exact q2)
   refine⟨v,m,?_,?_⟩
   ·unfold Gh;rw[hr];exact h1
   ·rw[h2];unfold CE;rw[show Ld (Oe a) 0=Fk 8 a from hs,A7 hp,A7 hst];rfl
 |jif hc hop hd hn he hq hlt=>
  rename_i op d n a o;obtain⟨q1,q2⟩:=EK hc;refine⟨?_,hR⟩
  have q3:∀w:Bool,DJ op a n=w->D3 87 [.int .i64 op, .bool true, .int .u64 a, .int .u64 (FA n)] (.cells true (AH pk)) (.tuple ⟨[.bool w, .int .i64 0]⟩):=λw hw=>by
   rw[Hl hn];exact .inl ⟨rfl,w,rfl,hop,hw.symm⟩
  rcases hd.1 with rfl|rfl
  ·have hr:AR r=AM (kd (r 0)) (nv (r 0)) (kd (r 1)) (nv (r 1)) 1 a (kd (r 3)) (nv (r 3)) (kd (r 4)) (nv (r 4)) (kd (r 5)) (nv (r 5)) (kd (r 6)) (nv (r 6)) (kd (r 7)) (nv (r 7)) (kd (r 8)) (nv (r 8)) (kd (r 9)) (nv (r 9)):=by unfold AR;rw[he];rfl
   cases hw:DJ op a n with
   |true=>
    have q3:=q3 true hw;rw[hw]at hq;have hat:IntKind.wrap .i64 (Int.add (Ct (p:Int)) (IntKind.wrap .i64 o))=(p':Int):=Mm hp hp2 (by simpa using hq);rcases hop with rfl|rfl|rfl|rfl
    ·obtain⟨v,m,h1,h2⟩:=BV (VA (AE l) (AH pk) (Fb pk sp) l.length port (kd (r 0)) (nv (r 0)) (kd (r 1)) (nv (r 1)) (kd (r 3)) (nv (r 3)) (kd (r 4)) (nv (r 4)) (kd (r 5)) (nv (r 5)) (kd (r 6)) (nv (r 6)) (kd (r 7)) (nv (r 7)) (kd (r 8)) (nv (r 8)) (kd (r 9)) (nv (r 9)) (p:Int) (st:Int) a n o) (by
        intro q hq;rcases List.mem_cons.1 hq with rfl|hq
        ·exact q1
        ·rcases List.mem_cons.1 hq with rfl|hq
         ·exact q2
         ·obtain rfl:=List.mem_singleton.1 hq;exact q3)
     refine⟨v,m,?_,?_⟩
     ·unfold Gh;rw[hr];exact h1
     ·rw[h2];unfold CE;rw[hat,A7 hst,hr]
    ·obtain⟨v,m,h1,h2⟩:=BV (VG (AE l) (AH pk) (Fb pk sp) l.length port (kd (r 0)) (nv (r 0)) (kd (r 1)) (nv (r 1)) (kd (r 3)) (nv (r 3)) (kd (r 4)) (nv (r 4)) (kd (r 5)) (nv (r 5)) (kd (r 6)) (nv (r 6)) (kd (r 7)) (nv (r 7)) (kd (r 8)) (nv (r 8)) (kd (r 9)) (nv (r 9)) (p:Int) (st:Int) a n o) (by
        intro q hq;rcases List.mem_cons.1 hq with rfl|hq
        ·exact q1
        ·rcases List.mem_cons.1 hq with rfl|hq
         ·exact q2
         ·obtain rfl:=List.mem_singleton.1 hq;exact q3)
     refine⟨v,m,?_,?_⟩
     ·unfold Gh;rw[hr];exact h1
     ·rw[h2];unfold CE;rw[hat,A7 hst,hr]
    ·obtain⟨v,m,h1,h2⟩:=BV (TJ (AE l) (AH pk) (Fb pk sp) l.length port (kd (r 0)) (nv (r 0)) (kd (r 1)) (nv (r 1)) (kd (r 3)) (nv (r 3)) (kd (r 4)) (nv (r 4)) (kd (r 5)) (nv (r 5)) (kd (r 6)) (nv (r 6)) (kd (r 7)) (nv (r 7)) (kd (r 8)) (nv (r 8)) (kd (r 9)) (nv (r 9)) (p:Int) (st:Int) a n o) (by
        intro q hq;rcases List.mem_cons.1 hq with rfl|hq
        ·exact q1
        ·rcases List.mem_cons.1 hq with rfl|hq
         ·exact q2
         ·obtain rfl:=List.mem_singleton.1 hq;exact q3)
     refine⟨v,m,?_,?_⟩
     ·unfold Gh;rw[hr];exact h1
     ·rw[h2];unfold CE;rw[hat,A7 hst,hr]
    ·obtain⟨v,m,h1,h2⟩:=BV (VD (AE l) (AH pk) (Fb pk sp) l.length port (kd (r 0)) (nv (r 0)) (kd (r 1)) (nv (r 1)) (kd (r 3)) (nv (r 3)) (kd (r 4)) (nv (r 4)) (kd (r 5)) (nv (r 5)) (kd (r 6)) (nv (r 6)) (kd (r 7)) (nv (r 7)) (kd (r 8)) (nv (r 8)) (kd (r 9)) (nv (r 9)) (p:Int) (st:Int) a n o) (by
        intro q hq;rcases List.mem_cons.1 hq with rfl|hq
        ·exact q1
        ·rcases List.mem_cons.1 hq with rfl|hq
         ·exact q2
         ·obtain rfl:=List.mem_singleton.1 hq;exact q3)
     refine⟨v,m,?_,?_⟩
     ·unfold Gh;rw[hr];exact h1
     ·rw[h2];unfold CE;rw[hat,A7 hst,hr]
   |false=>
    have q3:=q3 false hw;rw[hw]at hq;have hat:Ct (p:Int)=(p':Int):=by rw[A7 hp];simp at hq;omega
    rcases hop with rfl|rfl|rfl|rfl
    ·obtain⟨v,m,h1,h2⟩:=BV (VF (AE l) (AH pk) (Fb pk sp) l.length port (kd (r 0)) (nv (r 0)) (kd (r 1)) (nv (r 1)) (kd (r 3)) (nv (r 3)) (kd (r 4)) (nv (r 4)) (kd (r 5)) (nv (r 5)) (kd (r 6)) (nv (r 6)) (kd (r 7)) (nv (r 7)) (kd (r 8)) (nv (r 8)) (kd (r 9)) (nv (r 9)) (p:Int) (st:Int) a n o) (by
        intro q hq;rcases List.mem_cons.1 hq with rfl|hq
        ·exact q1
        ·rcases List.mem_cons.1 hq with rfl|hq
         ·exact q2
         ·obtain rfl:=List.mem_singleton.1 hq;exact q3)
     refine⟨v,m,?_,?_⟩
     ·unfold Gh;rw[hr];exact h1
     ·rw[h2];unfold CE;rw[hat,A7 hst,hr]
    ·obtain⟨v,m,h1,h2⟩:=BV (VL (AE l) (AH pk) (Fb pk sp) l.length port (kd (r 0)) (nv (r 0)) (kd (r 1)) (nv (r 1)) (kd (r 3)) (nv (r 3)) (kd (r 4)) (nv (r 4)) (kd (r 5)) (nv (r 5)) (kd (r 6)) (nv (r 6)) (kd (r 7)) (nv (r 7)) (kd (r 8)) (nv (r 8)) (kd (r 9)) (nv (r 9)) (p:Int) (st:Int) a n o) (by
        intro q hq;rcases List.mem_cons.1 hq with rfl|hq
        ·exact q1
        ·rcases List.mem_cons.1 hq with rfl|hq
         ·exact q2
         ·obtain rfl:=List.mem_singleton.1 hq;exact q3)
     refine⟨v,m,?_,?_⟩
     ·unfold Gh;rw[hr];exact h1
     ·rw[h2];unfold CE;rw[hat,A7 hst,hr]
    ·obtain⟨v,m,h1,h2⟩:=BV (TH (AE l) (AH pk) (Fb pk sp) l.length port (kd (r 0)) (nv (r 0)) (kd (r 1)) (nv (r 1)) (kd (r 3)) (nv (r 3)) (kd (r 4)) (nv (r 4)) (kd (r 5)) (nv (r 5)) (kd (r 6)) (nv (r 6)) (kd (r 7)) (nv (r 7)) (kd (r 8)) (nv (r 8)) (kd (r 9)) (nv (r 9)) (p:Int) (st:Int) a n o) (by
        intro q hq;rcases List.mem_cons.1 hq with rfl|hq
        ·exact q1
        ·rcases List.mem_cons.1 hq with rfl|hq
         ·exact q2
         ·obtain rfl:=List.mem_singleton.1 hq;exact q3)
     refine⟨v,m,?_,?_⟩
     ·unfold Gh;rw[hr];exact h1
     ·rw[h2];unfold CE;rw[hat,A7 hst,hr]
    ·obtain⟨v,m,h1,h2⟩:=BV (VI (AE l) (AH pk) (Fb pk sp) l.length port (kd (r 0)) (nv (r 0)) (kd (r 1)) (nv (r 1)) (kd (r 3)) (nv (r 3)) (kd (r 4)) (nv (r 4)) (kd (r 5)) (nv (r 5)) (kd (r 6)) (nv (r 6)) (kd (r 7)) (nv (r 7)) (kd (r 8)) (nv (r 8)) (kd (r 9)) (nv (r 9)) (p:Int) (st:Int) a n o) (by
        intro q hq;rcases List.mem_cons.1 hq with rfl|hq
        ·exact q1
        ·rcases List.mem_cons.1 hq with rfl|hq
         ·exact q2
         ·obtain rfl:=List.mem_singleton.1 hq;exact q3)
     refine⟨v,m,?_,?_⟩
     ·unfold Gh;rw[hr];exact h1
     ·rw[h2];unfold CE;rw[hat,A7 hst,hr]
  ·have hr:AR r=AM (kd (r 0)) (nv (r 0)) (kd (r 1)) (nv (r 1)) (kd (r 2)) (nv (r 2)) (kd (r 3)) (nv (r 3)) (kd (r 4)) (nv (r 4)) (kd (r 5)) (nv (r 5)) (kd (r 6)) (nv (r 6)) (kd (r 7)) (nv (r 7)) 1 a (kd (r 9)) (nv (r 9)):=by unfold AR;rw[he];rfl
   cases hw:DJ op a n with
   |true=>
    have q3:=q3 true hw;rw[hw]at hq;have hat:IntKind.wrap .i64 (Int.add (Ct (p:Int)) (IntKind.wrap .i64 o))=(p':Int):=Mm hp hp2 (by simpa using hq);rcases hop with rfl|rfl|rfl|rfl
    ·obtain⟨v,m,h1,h2⟩:=BV (VK (AE l) (AH pk) (Fb pk sp) l.length port (kd (r 0)) (nv (r 0)) (kd (r 1)) (nv (r 1)) (kd (r 2)) (nv (r 2)) (kd (r 3)) (nv (r 3)) (kd (r 4)) (nv (r 4)) (kd (r 5)) (nv (r 5)) (kd (r 6)) (nv (r 6)) (kd (r 7)) (nv (r 7)) (kd (r 9)) (nv (r 9)) (p:Int) (st:Int) a n o) (by
        intro q hq;rcases List.mem_cons.1 hq with rfl|hq
        ·exact q1
        ·rcases List.mem_cons.1 hq with rfl|hq
         ·exact q2
         ·obtain rfl:=List.mem_singleton.1 hq;exact q3)
     refine⟨v,m,?_,?_⟩
     ·unfold Gh;rw[hr];exact h1
     ·rw[h2];unfold CE;rw[hat,A7 hst,hr]
    ·obtain⟨v,m,h1,h2⟩:=BV (VC (AE l) (AH pk) (Fb pk sp) l.length port (kd (r 0)) (nv (r 0)) (kd (r 1)) (nv (r 1)) (kd (r 2)) (nv (r 2)) (kd (r 3)) (nv (r 3)) (kd (r 4)) (nv (r 4)) (kd (r 5)) (nv (r 5)) (kd (r 6)) (nv (r 6)) (kd (r 7)) (nv (r 7)) (kd (r 9)) (nv (r 9)) (p:Int) (st:Int) a n o) (by
        intro q hq;rcases List.mem_cons.1 hq with rfl|hq
        ·exact q1
        ·rcases List.mem_cons.1 hq with rfl|hq
         ·exact q2
         ·obtain rfl:=List.mem_singleton.1 hq;exact q3)
     refine⟨v,m,?_,?_⟩
     ·unfold Gh;rw[hr];exact h1
     ·rw[h2];unfold CE;rw[hat,A7 hst,hr]
    ·obtain⟨v,m,h1,h2⟩:=BV (TI (AE l) (AH pk) (Fb pk sp) l.length port (kd (r 0)) (nv (r 0)) (kd (r 1)) (nv (r 1)) (kd (r 2)) (nv (r 2)) (kd (r 3)) (nv (r 3)) (kd (r 4)) (nv (r 4)) (kd (r 5)) (nv (r 5)) (kd (r 6)) (nv (r 6)) (kd (r 7)) (nv (r 7)) (kd (r 9)) (nv (r 9)) (p:Int) (st:Int) a n o) (by
        intro q hq;rcases List.mem_cons.1 hq with rfl|hq
        ·exact q1
        ·rcases List.mem_cons.1 hq with rfl|hq
         ·exact q2
         ·obtain rfl:=List.mem_singleton.1 hq;exact q3)
     refine⟨v,m,?_,?_⟩
     ·unfold Gh;rw[hr];exact h1
     ·rw[h2];unfold CE;rw[hat,A7 hst,hr]
    ·obtain⟨v,m,h1,h2⟩:=BV (VM (AE l) (AH pk) (Fb pk sp) l.length port (kd (r 0)) (nv (r 0)) (kd (r 1)) (nv (r 1)) (kd (r 2)) (nv (r 2)) (kd (r 3)) (nv (r 3)) (kd (r 4)) (nv (r 4)) (kd (r 5)) (nv (r 5)) (kd (r 6)) (nv (r 6)) (kd (r 7)) (nv (r 7)) (kd (r 9)) (nv (r 9)) (p:Int) (st:Int) a n o) (by
        intro q hq;rcases List.mem_cons.1 hq with rfl|hq
        ·exact q1
        ·rcases List.mem_cons.1 hq with rfl|hq
         ·exact q2
         ·obtain rfl:=List.mem_singleton.1 hq;exact q3)
     refine⟨v,m,?_,?_⟩
     ·unfold Gh;rw[hr];exact h1
     ·rw[h2];unfold CE;rw[hat,A7 hst,hr]
   |false=>
    have q3:=q3 false hw;rw[hw]at hq;have hat:Ct (p:Int)=(p':Int):=by rw[A7 hp];simp at hq;omega
    rcases hop with rfl|rfl|rfl|rfl
    ·obtain⟨v,m,h1,h2⟩:=BV (VB (AE l) (AH pk) (Fb pk sp) l.length port (kd (r 0)) (nv (r 0)) (kd (r 1)) (nv (r 1)) (kd (r 2)) (nv (r 2)) (kd (r 3)) (nv (r 3)) (kd (r 4)) (nv (r 4)) (kd (r 5)) (nv (r 5)) (kd (r 6)) (nv (r 6)) (kd (r 7)) (nv (r 7)) (kd (r 9)) (nv (r 9)) (p:Int) (st:Int) a n o) (by
        intro q hq;rcases List.mem_cons.1 hq with rfl|hq
        ·exact q1
        ·rcases List.mem_cons.1 hq with rfl|hq
         ·exact q2
         ·obtain rfl:=List.mem_singleton.1 hq;exact q3)
     refine⟨v,m,?_,?_⟩
     ·unfold Gh;rw[hr];exact h1
     ·rw[h2];unfold CE;rw[hat,A7 hst,hr]
    ·obtain⟨v,m,h1,h2⟩:=BV (VH (AE l) (AH pk) (Fb pk sp) l.length port (kd (r 0)) (nv (r 0)) (kd (r 1)) (nv (r 1)) (kd (r 2)) (nv (r 2)) (kd (r 3)) (nv (r 3)) (kd (r 4)) (nv (r 4)) (kd (r 5)) (nv (r 5)) (kd (r 6)) (nv (r 6)) (kd (r 7)) (nv (r 7)) (kd (r 9)) (nv (r 9)) (p:Int) (st:Int) a n o) (by
        intro q hq;rcases List.mem_cons.1 hq with rfl|hq
        ·exact q1
        ·rcases List.mem_cons.1 hq with rfl|hq
         ·exact q2
         ·obtain rfl:=List.mem_singleton.1 hq;exact q3)
     refine⟨v,m,?_,?_⟩
     ·unfold Gh;rw[hr];exact h1
     ·rw[h2];unfold CE;rw[hat,A7 hst,hr]
    ·obtain⟨v,m,h1,h2⟩:=BV (TK (AE l) (AH pk) (Fb pk sp) l.length port (kd (r 0)) (nv (r 0)) (kd (r 1)) (nv (r 1)) (kd (r 2)) (nv (r 2)) (kd (r 3)) (nv (r 3)) (kd (r 4)) (nv (r 4)) (kd (r 5)) (nv (r 5)) (kd (r 6)) (nv (r 6)) (kd (r 7)) (nv (r 7)) (kd (r 9)) (nv (r 9)) (p:Int) (st:Int) a n o) (by
        intro q hq;rcases List.mem_cons.1 hq with rfl|hq
        ·exact q1
        ·rcases List.mem_cons.1 hq with rfl|hq
         ·exact q2
         ·obtain rfl:=List.mem_singleton.1 hq;exact q3)
     refine⟨v,m,?_,?_⟩
     ·unfold Gh;rw[hr];exact h1
     ·rw[h2];unfold CE;rw[hat,A7 hst,hr]
    ·obtain⟨v,m,h1,h2⟩:=BV (VE (AE l) (AH pk) (Fb pk sp) l.length port (kd (r 0)) (nv (r 0)) (kd (r 1)) (nv (r 1)) (kd (r 2)) (nv (r 2)) (kd (r 3)) (nv (r 3)) (kd (r 4)) (nv (r 4)) (kd (r 5)) (nv (r 5)) (kd (r 6)) (nv (r 6)) (kd (r 7)) (nv (r 7)) (kd (r 9)) (nv (r 9)) (p:Int) (st:Int) a n o) (by
        intro q hq;rcases List.mem_cons.1 hq with rfl|hq
        ·exact q1
        ·rcases List.mem_cons.1 hq with rfl|hq
         ·exact q2
         ·obtain rfl:=List.mem_singleton.1 hq;exact q3)
     refine⟨v,m,?_,?_⟩
     ·unfold Gh;rw[hr];exact h1
     ·rw[h2];unfold CE;rw[hat,A7 hst,hr]
 |jifR hc hop he he3 hq hlt=>
  rename_i op a c o;obtain⟨q1,q2⟩:=EK hc;refine⟨?_,hR⟩;have hr:AR r=AM (kd (r 0)) (nv (r 0)) (kd (r 1)) (nv (r 1)) 1 a 1 c (kd (r 4)) (nv (r 4)) (kd (r 5)) (nv (r 5)) (kd (r 6)) (nv (r 6)) (kd (r 7)) (nv (r 7)) (kd (r 8)) (nv (r 8)) (kd (r 9)) (nv (r 9)):=by unfold AR;rw[he,he3];rfl
  have q3:∀w:Bool,DJ op a c=w->D3 87 [.int .i64 op, .bool true, .int .u64 a, .int .u64 c] (.cells true (AH pk)) (.tuple ⟨[.bool w, .int .i64 0]⟩):=λw hw=> .inl ⟨rfl,w,rfl,by rcases hop with rfl|rfl<;>simp,hw.symm⟩;cases hw:DJ op a c with
  |true=>
   have q3:=q3 true hw;rw[hw]at hq;have hat:IntKind.wrap .i64 (Int.add (Ct (p:Int)) (IntKind.wrap .i64 o))=(p':Int):=Mm hp hp2 (by simpa using hq);rcases hop with rfl|rfl
   ·obtain⟨v,m,h1,h2⟩:=BV (VJ (AE l) (AH pk) (Fb pk sp) l.length port (kd (r 0)) (nv (r 0)) (kd (r 1)) (nv (r 1)) (kd (r 4)) (nv (r 4)) (kd (r 5)) (nv (r 5)) (kd (r 6)) (nv (r 6)) (kd (r 7)) (nv (r 7)) (kd (r 8)) (nv (r 8)) (kd (r 9)) (nv (r 9)) (p:Int) (st:Int) a c o) (by
       intro q hq;rcases List.mem_cons.1 hq with rfl|hq
       ·exact q1
       ·rcases List.mem_cons.1 hq with rfl|hq
        ·exact q2
        ·obtain rfl:=List.mem_singleton.1 hq;exact q3)
    refine⟨v,m,?_,?_⟩
    ·unfold Gh;rw[hr];exact h1
    ·rw[h2];unfold CE;rw[hat,A7 hst,hr]
   ·obtain⟨v,m,h1,h2⟩:=BV (Yx (AE l) (AH pk) (Fb pk sp) l.length port (kd (r 0)) (nv (r 0)) (kd (r 1)) (nv (r 1)) (kd (r 4)) (nv (r 4)) (kd (r 5)) (nv (r 5)) (kd (r 6)) (nv (r 6)) (kd (r 7)) (nv (r 7)) (kd (r 8)) (nv (r 8)) (kd (r 9)) (nv (r 9)) (p:Int) (st:Int) a c o) (by
       intro q hq;rcases List.mem_cons.1 hq with rfl|hq
       ·exact q1
       ·rcases List.mem_cons.1 hq with rfl|hq
        ·exact q2
        ·obtain rfl:=List.mem_singleton.1 hq;exact q3)
    refine⟨v,m,?_,?_⟩
    ·unfold Gh;rw[hr];exact h1
    ·rw[h2];unfold CE;rw[hat,A7 hst,hr]
  |false=>
   have q3:=q3 false hw;rw[hw]at hq;have hat:Ct (p:Int)=(p':Int):=by rw[A7 hp];simp at hq;omega
   rcases hop with rfl|rfl
   ·obtain⟨v,m,h1,h2⟩:=BV (VN (AE l) (AH pk) (Fb pk sp) l.length port (kd (r 0)) (nv (r 0)) (kd (r 1)) (nv (r 1)) (kd (r 4)) (nv (r 4)) (kd (r 5)) (nv (r 5)) (kd (r 6)) (nv (r 6)) (kd (r 7)) (nv (r 7)) (kd (r 8)) (nv (r 8)) (kd (r 9)) (nv (r 9)) (p:Int) (st:Int) a c o) (by
       intro q hq;rcases List.mem_cons.1 hq with rfl|hq
       ·exact q1
       ·rcases List.mem_cons.1 hq with rfl|hq
        ·exact q2
        ·obtain rfl:=List.mem_singleton.1 hq;exact q3)
    refine⟨v,m,?_,?_⟩
    ·unfold Gh;rw[hr];exact h1
    ·rw[h2];unfold CE;rw[hat,A7 hst,hr]
   ·obtain⟨v,m,h1,h2⟩:=BV (ZA (AE l) (AH pk) (Fb pk sp) l.length port (kd (r 0)) (nv (r 0)) (kd (r 1)) (nv (r 1)) (kd (r 4)) (nv (r 4)) (kd (r 5)) (nv (r 5)) (kd (r 6)) (nv (r 6)) (kd (r 7)) (nv (r 7)) (kd (r 8)) (nv (r 8)) (kd (r 9)) (nv (r 9)) (p:Int) (st:Int) a c o) (by
       intro q hq;rcases List.mem_cons.1 hq with rfl|hq
       ·exact q1
       ·rcases List.mem_cons.1 hq with rfl|hq
        ·exact q2
        ·obtain rfl:=List.mem_singleton.1 hq;exact q3)
    refine⟨v,m,?_,?_⟩
    ·unfold Gh;rw[hr];exact h1
    ·rw[h2];unfold CE;rw[hat,A7 hst,hr]
 |goto hc hq hlt=>
  rename_i o;obtain⟨q1,q2⟩:=EK hc;refine⟨?_,hR⟩
  obtain⟨v,m,h1,h2⟩:=BV (sk (AE l) (AH pk) (Fb pk sp) l.length port (kd (r 0)) (nv (r 0)) (kd (r 1)) (nv (r 1)) (kd (r 2)) (nv (r 2)) (kd (r 3)) (nv (r 3)) (kd (r 4)) (nv (r 4)) (kd (r 5)) (nv (r 5)) (kd (r 6)) (nv (r 6)) (kd (r 7)) (nv (r 7)) (kd (r 8)) (nv (r 8)) (kd (r 9)) (nv (r 9)) (p:Int) (st:Int) o) (by
   intro q hq;rcases List.mem_cons.1 hq with rfl|hq
   ·exact q1
   ·obtain rfl:=List.mem_singleton.1 hq;exact q2)
  refine⟨v,m,h1,?_⟩;rw[h2];unfold CE;rw[show IntKind.wrap .i64 (Int.add (Ct (p:Int)) (IntKind.wrap .i64 o))=(p':Int)from Mm hp hp2 hq,A7 hst];rfl
theorem U7{l:List Bb}{pk:List Int}{sp:Option Nat}{port:Int}{p st:Nat}{r:Int->RV}{a:Int}(hst:st<=1000000000)(hc:l[p]?=some D0)(he:r 0= .num a):Wn l pk sp port r p st r p (st+1) true:=by
 obtain⟨q1,q2⟩:=EK hc
 have hr:AR r=AM 1 a (kd (r 1)) (nv (r 1)) (kd (r 2)) (nv (r 2)) (kd (r 3)) (nv (r 3)) (kd (r 4)) (nv (r 4)) (kd (r 5)) (nv (r 5)) (kd (r 6)) (nv (r 6)) (kd (r 7)) (nv (r 7)) (kd (r 8)) (nv (r 8)) (kd (r 9)) (nv (r 9)):=by unfold AR;rw[he];rfl
 obtain⟨v,m,h1,h2⟩:=BV (sg (AE l) (AH pk) (Fb pk sp) l.length port (kd (r 1)) (nv (r 1)) (kd (r 2)) (nv (r 2)) (kd (r 3)) (nv (r 3)) (kd (r 4)) (nv (r 4)) (kd (r 5)) (nv (r 5)) (kd (r 6)) (nv (r 6)) (kd (r 7)) (nv (r 7)) (kd (r 8)) (nv (r 8)) (kd (r 9)) (nv (r 9)) (p:Int) (st:Int) a) (by
   intro q hq;rcases List.mem_cons.1 hq with rfl|hq
   ·exact q1
   ·obtain rfl:=List.mem_singleton.1 hq;exact q2)
 refine⟨v,m,?_,?_⟩
 ·unfold Gh;rw[hr];exact h1
 ·rw[h2];unfold CE;rw[A7 hst,hr]
end
end Go.Proofs.YtgjflcgmieiafaaGreatDoor
namespace Go.Proofs.YtgjflcgmieiafaaGreatDoor
open Go Go.DI Go.DI.Kit Go.Proofs Go.Cmp
noncomputable section
theorem CO:∀x∈gl,Free x:=by
 intro x hx
 simp only[gl,List.mem_cons,List.not_mem_nil,or_false]at hx
 rcases hx with h|h|h|h<;>(rw[h];exact CH _ _)
theorem hasB{f:FuncId}(h:(match Tryz.prog.funcs[f]? with|some fn=> !fn.body.isNone|none=>false)=true):∃fn,Tryz.prog.funcs[f]?=some fn∧fn.body.isNone=false∧(fn.name== "runtime.NumGoroutine")=false:=by
 cases hf:Tryz.prog.funcs[f]? with
 |none=>rw[hf]at h;cases h
 |some fn=>
  rw[hf]at h;simp only[Bool.not_eq_true']at h;exact⟨fn,rfl,h,Ee f fn hf h⟩
def tT:Value->Nat
 | .slice (some a) _ _=>a.block
 |_=>0
def tU(i:Nat):Value->Value
 | .slice (some ⟨_,o,sp⟩) n c=> .slice (some ⟨i,o,sp⟩) n c
 |v=>v
def bsC(p:Nat):BH->List Nat
 | .cells _ (m::cd::t::pk::_::tm::ch::_)=> [p,tT cd,tT pk,tT t,tT m,tT tm,tT ch]
 |_=> []
def zO:BH->BH
 | .cells o (m::cd::t::pk::port::tm::ch::rest)=> .cells o (tU 5 m::tU 2 cd::tU 4 t::tU 3 pk::port::tU 6 tm::tU 7 ch::rest)
 |_=> .none
def GZ(M:Mem)(p:Nat):List Nat:=bsC p (M.get p)
def Kf(M:Mem)(p:Nat):List BH:=match GZ M p with
 |_::l=>zO (M.get p)::l.map M.get
 | []=> []
abbrev p1:List Value:= [.pointer (some ⟨1,0,none⟩)]
open Classical in
def oM:CX:=λf a M=>match a with
 | [.pointer (some ⟨p,0,none⟩)]=>if f=28/\(∃l,GZ M p=p::l)/\Fits gl (GZ M p) (Kf M p) M then
   (match CJ Tryz.prog kp 1 oG 20 28 p1 (mS gl (Kf M p))with
    |some (v,m)=>if fG v=true/\m.get 0= .cells false gl/\∀i,0<i->i<=(GZ M p).length->okB (m.get i)then some (QP (DH (GZ M p) M) v,uS (GZ M p) M m)else none
    |none=>none)else none
 |_=>none
structure wR(M:Mem)(K:CR)(bs:List Nat)(l:List Bb)(pk:List Int)(sp:Option Nat)(port:Int)(r:Int->RV)(at_ st:Nat)(over:Bool):Prop where
 hp:Hp M K []
 free:∀b∈bs,K b=none
 fits:Fits gl bs (jt (AE l) (AH pk) (AS l.length) (Fb pk sp) port (AR r) (at_:Int) (st:Int) over 0) M
def EA:Value->Bool
 | .int _ _=>true
 | .bool _=>true
 |_=>false
theorem Yf{ρ:Nat->Nat}{v:Value}(h:EA v=true):QP ρ v=v:=by cases v<;>simp[EA]at h<;>rfl
theorem CW{ρ:Nat->Nat}:∀{l:List Value},l.all EA=true->l.map (QP ρ)=l
 | [],_=>rfl
 |v::l,h=>by
  simp only[List.all_cons,Bool.and_eq_true]at h;rw[List.map_cons,Yf h.1,CW h.2]
theorem Ev{v:Value}(h:EA v=true):fG v=true:=by cases v<;>simp[EA]at h<;>rfl
theorem Di{v:Value}{n:Nat}(h:EA v=true):Go.DI.Kit.seenV n v=true:=by cases v<;>simp[EA]at h<;>rfl
theorem BT(l:List Bb):(AE l).all EA=true:=by
 unfold AE
 rw[List.all_flatMap,List.all_eq_true]
 intro x _
 rfl
theorem C3(pk:List Int):(AH pk).all EA=true:=by
 unfold AH
 rw[List.all_map,List.all_eq_true]
 intro x _
 rfl
def P6(regs:List Value)(at_ st:Int)(over:Bool):List Value:=regs++(bu++ [.int .i64 at_, .int .i64 st, .bool over, .int .i64 0])
theorem OP(r:Int->RV)(at_ st:Int)(over:Bool):(P6 (AR r) at_ st over).all EA=true:=by kernel_rfl
theorem XF(n:Nat)(pk:List Int)(sp:Option Nat)(port:Int)(r:Int->RV)(at_ st:Int)(over:Bool):
  jr (AS n) (Fb pk sp) port (AR r) at_ st over 0= .cells true (mo 5::AS n::mo 4::Fb pk sp:: .int .u32 port::mo 6::mo 7::P6 (AR r) at_ st over):=rfl
theorem Qr(ρ:Nat->Nat)(n:Nat)(pk:List Int)(sp:Option Nat)(port:Int)(r:Int->RV)(at_ st:Int)(over:Bool):
  Gq ρ (jr (AS n) (Fb pk sp) port (AR r) at_ st over 0)= .cells true (.slice (some ⟨ρ 5,0,none⟩) 0 0:: .slice (some ⟨ρ 2,0,some 5⟩) n n:: .slice (some ⟨ρ 4,0,none⟩) 0 0:: .slice (some ⟨ρ 3,0,sp⟩) pk.length pk.length:: .int .u32 port:: .slice (some ⟨ρ 6,0,none⟩) 0 0:: .slice (some ⟨ρ 7,0,none⟩) 0 0::P6 (AR r) at_ st over):=by
 rw[XF]
 show BH.cells true (_::_::_::_::_::_::_::(P6 (AR r) at_ st over).map (QP ρ))=_
 rw[CW (OP ..)]
 rfl
theorem da(l:List Bb)(pk:List Int)(sp:Option Nat)(port:Int)(r:Int->RV)(at_ st:Int)(over:Bool):∀s∈jt (AE l) (AH pk) (AS l.length) (Fb pk sp) port (AR r) at_ st over 0,okB s/\seenB (1+7) s:=by
 have hpl:∀c:List Value,c.all EA=true->okB (.cells true c)/\seenB (1+7) (.cells true c):=λc h=>⟨λv hv=>Ev (List.all_eq_true.1 h v hv),λv hv=>Di (List.all_eq_true.1 h v hv)⟩
 intro s hs
 simp only[jt,List.mem_cons,List.not_mem_nil,or_false]at hs
 rcases hs with rfl|rfl|rfl|rfl|rfl|rfl|rfl
 ·have ht:=hpl _ (OP r at_ st over);rw[XF];constructor
  ·intro v hv;simp only[List.mem_cons]at hv;rcases hv with rfl|rfl|rfl|rfl|rfl|rfl|rfl|hv
   ·rfl
   ·rfl
   ·rfl
   ·rfl
   ·rfl
   ·rfl
   ·rfl
   ·exact ht.1 v hv
  ·intro v hv;simp only[List.mem_cons]at hv;rcases hv with rfl|rfl|rfl|rfl|rfl|rfl|rfl|hv
   ·rfl
   ·rfl
   ·rfl
   ·rfl
   ·rfl
   ·rfl
   ·rfl
   ·exact ht.2 v hv
 ·exact hpl _ (BT l)
 ·exact hpl _ (C3 pk)
 all_goals exact hpl _ rfl
theorem seven{bs:List Nat}(h:bs.length=7):∃p c k t mm tm ch,bs= [p,c,k,t,mm,tm,ch]:=by
 match bs,h with
 | [p,c,k,t,mm,tm,ch],_=>exact⟨p,c,k,t,mm,tm,ch,rfl⟩
section
variable{M:Mem}{K:CR}{p c k t mm tm ch:Nat}{l:List Bb}{pk:List Int}{sp:Option Nat}{port:Int}{r r':Int->RV}{at_ st at' st':Nat}{over:Bool}
theorem wR.get(h:wR M K [p,c,k,t,mm,tm,ch] l pk sp port r at_ st over):
  M.get p= .cells true (.slice (some ⟨mm,0,none⟩) 0 0:: .slice (some ⟨c,0,some 5⟩) l.length l.length:: .slice (some ⟨t,0,none⟩) 0 0:: .slice (some ⟨k,0,sp⟩) pk.length pk.length:: .int .u32 port:: .slice (some ⟨tm,0,none⟩) 0 0:: .slice (some ⟨ch,0,none⟩) 0 0::P6 (AR r) (at_:Int) (st:Int) over)/\
  M.get c= .cells true (AE l)/\M.get k= .cells true (AH pk)/\M.get t=GV/\M.get mm=GV/\M.get tm=GV/\M.get ch=GV:=by
 have hf:=h.fits.at_
 refine⟨(hf 0 p _ rfl rfl).trans (Qr ..),?_,?_,(hf 3 t _ rfl rfl).trans rfl,(hf 4 mm _ rfl rfl).trans rfl,(hf 5 tm _ rfl rfl).trans rfl,(hf 6 ch _ rfl rfl).trans rfl⟩
 ·refine(hf 1 c _ rfl rfl).trans ?_;show BH.cells true ((AE l).map _)=_;rw[CW (BT l)]
 ·refine(hf 2 k _ rfl rfl).trans ?_;show BH.cells true ((AH pk).map _)=_;rw[CW (C3 pk)]
theorem wR.of(h:wR M K [p,c,k,t,mm,tm,ch] l pk sp port r at_ st over):GZ M p= [p,c,k,t,mm,tm,ch]/\Kf M p=jt (AE l) (AH pk) (AS l.length) (Fb pk sp) port (AR r) (at_:Int) (st:Int) over 0:=by
 obtain⟨g1,g2,g3,g4,g5,g6,g7⟩:=h.get
 have hb:GZ M p= [p,c,k,t,mm,tm,ch]:=by unfold GZ;rw[g1];rfl
 refine⟨hb,?_⟩
 unfold Kf
 rw[hb]
 show zO (M.get p):: [M.get c,M.get k,M.get t,M.get mm,M.get tm,M.get ch]=_
 rw[g1,g2,g3,g4,g5,g6,g7]
 rfl
end
end
end Go.Proofs.YtgjflcgmieiafaaGreatDoor
namespace Go.DI
namespace Kit
noncomputable section
def zf(kp:Nat->Bool)(bs:List Nat)(M m:Mem):Mem:=
 ⟨λj=>if j<M.size then(match bs.idxOf? j with|some i=>Gq (DH bs M) (m.get (i+1))|none=>M.get j)else if j<M.size+(m.size - (1+bs.length))/\kp (j - M.size+1+bs.length)=true then Gq (DH bs M) (m.get (j - M.size+1+bs.length))else .none, .nil,M.size+(m.size - (1+bs.length))⟩
section
variable{P:Program}{K:TypeId->Bool}{gl:List Value}
theorem KN{ρ:Nat->Nat}{k:Nat->Bool}{a a':List Value}(h:HQ ρ k a a'):QQ ρ k (.agg ⟨a⟩) (.agg ⟨a'⟩):=λι v' g=>by
 obtain⟨b,rfl,hb⟩:=g.inv_agg
 have:=h.rel hb
 have e:b=b.toList.toArray:=by simp
 rw[e]
 exact AZ.agg' this
end
end
end Kit
end Go.DI
namespace Go.DI
namespace Kit
noncomputable section
def Vm(ρ:Nat->Nat)(A:Nat->Bool)(vs v:Value):Prop:=∀(ι κ:Ren) (v':Value),(∀i L,A i=true->ι i=some L->κ (ρ i)=some L)->AZ ι vs v'->AZ κ v v'
structure Vn(ρ:Nat->Nat)(A:Nat->Bool)(bs b:BH):Prop where
 live:b.live->bs.live
 own:b.own=true->bs.own=true
 rel:∀(B0:Nat) (ι κ:Ren) (L:Loc) (w:World),(∀i L,A i=true->ι i=some L->κ (ρ i)=some L)->Bi B0 ι bs L w->Bi B0 κ b L w
theorem _root_.Go.DI.Free.embA{v:Value}(h:Free v)(ρ:Nat->Nat)(A:Nat->Bool):Vm ρ A v v:=λι κ v' _ g=>h ι κ v' g
theorem Vo{v:Value}(h:fG v=true):QP id v=v:=by
 unfold fG at h
 split at h<;>try (simp at h;done)
 ·rename_i a n c;cases a<;>rfl
 all_goals rfl
theorem sub_id(ι:Ren)(A:Nat->Bool)(i:Nat)(L:Loc)(h:(ι.sub id A) i=some L):A i=true/\ι i=some L:=by
 simp only[Ren.sub]at h
 split at h
 ·rename_i g;exact⟨g,h⟩
 ·cases h
theorem renB_id{b:BH}(h:okB b):Gq id b=b:=by
 cases b with
 |none=>rfl
 |map=>exact h.elim
 |siter=>exact h.elim
 |cells o c=>
  show BH.cells o (c.map (QP id))=_;congr 1;exact(List.map_congr_left λv hv=>Vo (h v hv)).trans (List.map_id _)
theorem PH{ρ:Nat->Nat}{nb:Nat}{b:BH}(h:okB b)(hs:seenB nb b):Vn ρ (λi=>Nat.blt i nb) b (Gq ρ b):=by
 have h1:=bsim_ren (ρ:=id) h hs
 rw[renB_id h]at h1
 have h2:=Rw (ρ:=ρ) h
 exact⟨h2.live,h2.own,λB0 ι κ L w hm g=>h2.rel B0 _ κ L w (λi L hi=>by obtain⟨a,b⟩:=sub_id _ _ _ _ hi;exact hm i L a b) (h1.rel B0 ι L w g)⟩
theorem N3{ρ:Nat->Nat}{A:Nat->Bool}{o:Bool}{c:List Value}(h:∀x∈c,Free x):Vn ρ A (.cells o c) (.cells o c):=by
 have h1:QR id A (.cells o c) (.cells o c):=FH h
 have h2:UD ρ (.cells o c) (.cells o c):=Is h
 exact⟨h2.live,h2.own,λB0 ι κ L w hm g=>h2.rel B0 _ κ L w (λi L hi=>by obtain⟨a,b⟩:=sub_id _ _ _ _ hi;exact hm i L a b) (h1.rel B0 ι L w g)⟩
theorem YN{ρ:Nat->Nat}{x:BH}(h:(Gq ρ x).live):x.live:=by cases x<;>first|trivial|exact h.elim
theorem ar{ρ:Nat->Nat}{x:BH}(h:(Gq ρ x).own=true):x.own=true:=by cases x<;>first|exact h|exact absurd h (by simp[Gq,BH.own])
theorem YO{ρ:Nat->Nat}{x:BH}(ho:okB x)(h:x.live):(Gq ρ x).live:=by cases x<;>first|trivial|exact h.elim|exact ho.elim
theorem au{ρ:Nat->Nat}{x:BH}(ho:okB x)(h:x.own=true):(Gq ρ x).own=true:=by cases x<;>first|exact h|exact ho.elim
structure aw(ρ:Nat->Nat)(A:Nat->Bool)(ms ms' M M':Mem):Prop where
 sees:∀i,A i=true->i<ms.size
 grw:EM ms ms'
 top:ms.top
 top':M'.top
 old:∀i,A i=true->ρ i<M.size
 inj:∀i j,A i=true->A j=true->(ms.get i).live->(ms.get j).live->ρ i=ρ j->i=j
 size:M'.size=M.size
 sim:∀i,A i=true->QR ρ A (ms.get i) (M.get (ρ i))
 emb:∀i,A i=true->Vn ρ A (ms'.get i) (M'.get (ρ i))
 rest:∀b,b<M.size->(∀i,A i=true->ρ i≠b)->M'.get b=M.get b
theorem ax{P:Program}{B0 G:Nat}(Gs:Nat){f:FuncId}{avs args:List Value}{vs v:Value}{ms ms' M M':Mem}{ρ:Nat->Nat}{A:Nat->Bool}(hG:∀g,g<Gs->g<G/\A g=true/\ρ g=g)(run:EJ P B0 Gs f avs ms vs ms')(h:aw ρ A ms ms' M M')
  (ha:HQ ρ A avs args) (hv:Vm ρ A vs v):EJ P B0 G f args M v M':=by
 intro ι w args' hr hf hargs
 have hms:=h.grw.size
 have hrs:Rel B0 Gs (ι.sub ρ A) ms w:=by
  refine⟨λb L hb hL=>?_,λb₁ b₂ L₁ L₂ h1 h2 e1 e2 l1 l2 g0 e=>?_,hr.floor,λg hg=>?_,λb hb=>h.top b hb⟩
  ·simp only[Ren.sub]at hL;split at hL
   ·rename_i hb;exact(h.sim b hb).rel _ _ _ _ (hr.blk _ _ (h.old b hb) hL)
   ·simp at hL
  ·simp only[Ren.sub]at e1 e2;split at e1
   ·rename_i h1;split at e2
    ·rename_i h2;exact h.inj _ _ h1 h2 l1 l2 (hr.inj _ _ _ _ (h.old _ h1) (h.old _ h2) e1 e2 ((h.sim _ h1).live l1) ((h.sim _ h2).live l2) g0 e)
    ·simp at e2
   ·simp at e1
  ·obtain⟨q1,q2,q3⟩:=hG g hg;obtain⟨L,p1,p2⟩:=hr.glob g q1;exact⟨L,by simp only[Ren.sub,q2,if_true,q3];exact p1,p2⟩
 refine(run _ w args' hrs (λb h1 _=>by simp only[Ren.sub];rw[if_neg (λg=>by have:=h.sees b g;omega)]) (ha.rel hargs)).mono ?_
 rintro e w' ⟨v',ι₂,he,hv',hr',hs⟩
 have hι₂old:∀i,A i=true->ι₂ i=ι (ρ i):=λi hi=>by
  rw[hs.out i (.inl (h.sees i hi))];simp only[Ren.sub,hi,if_true]
 have hmap:∀i L,A i=true->ι₂ i=some L->ι (ρ i)=some L:=λi L hi hL=>by rw[←hι₂old i hi];exact hL
 have hframe:∀B,B<w.heap.size->(∀b L,b<M.size->ι b=some L->(M.get b).own=true->L.block≠B)->w'.heap[B]?=w.heap[B]?:=by
  intro B hB hno;refine hs.frame B hB λi L hi hL ho=>?_;simp only[Ren.sub]at hL;split at hL
  ·rename_i hi;exact hno _ _ (h.old i hi) hL ((h.sim i hi).own ho)
  ·simp at hL
 have hsz:=h.size
 refine⟨v',ι,he,hv _ _ _ hmap hv',⟨λb L hb hL=>?_,λb₁ b₂ L₁ L₂ h1 h2 e1 e2 l1 l2 g0 e=>?_,hr'.floor,hr.glob,h.top'⟩,
  ⟨λ_ _ h=>h,λ_ _=>rfl,hs.os,hs.output,hs.tape,hs.hsize,hframe,λb L h1 h2 hL=>by omega,by omega,λb hb ho=>?_⟩⟩
 ·by_cases hx:∃i,A i=true/\ρ i=b
  ·obtain⟨i,hi,rfl⟩:=hx;have hi0:=h.sees i hi;exact(h.emb i hi).rel _ _ _ _ _ hmap (hr'.blk _ _ (by omega) (by rw[hι₂old i hi];exact hL))
  ·have h1:b<M.size:=by omega
   have h2:∀i,A i=true->ρ i≠b:=λi hi e=>hx ⟨i,hi,e⟩;rw[h.rest b h1 h2];have hb0:=hr.blk b L h1 hL;by_cases hl:(M.get b).live
   ·refine Bi.mono (λ_ _ h=>h) (hs.frame _ (hr.old _ _ hL hl) λi L' q1 q2 q3 q4=>?_) hb0;simp only[Ren.sub]at q2;split at q2
    ·rename_i q1;exact h2 i q1 (hr.inj _ _ _ _ (h.old i q1) h1 q2 hL (QS ((h.sim i q1).own q3)) hl ((hr.blk _ _ (h.old i q1) q2).own_floor ((h.sim i q1).own q3)) q4)
    ·simp at q2
   ·cases hg:M.get b with
    |none=>trivial
    |cells=>rw[hg]at hl;exact absurd trivial hl
    |map=>rw[hg]at hl;exact absurd trivial hl
    |siter=>rw[hg]at hl;exact absurd trivial hl
 ·have hl:∀b,b<M.size->(M'.get b).live->(M.get b).live:=λb hb l=>by
   by_cases hx:∃i,A i=true/\ρ i=b
   ·obtain⟨i,hi,rfl⟩:=hx;exact(h.sim i hi).live (h.grw.live i (h.sees i hi) ((h.emb i hi).live l))
   ·rw[h.rest b hb (λi hi e=>hx ⟨i,hi,e⟩)]at l;exact l
  exact hr.inj _ _ _ _ (by omega) (by omega) e1 e2 (hl _ (by omega) l1) (hl _ (by omega) l2) g0 e
 ·by_cases hx:∃i,A i=true/\ρ i=b
  ·obtain⟨i,hi,rfl⟩:=hx;have hi0:=h.sees i hi;exact(h.sim i hi).own (hs.ownk i hi0 ((h.emb i hi).own ho))
  ·rw[h.rest b hb (λi hi e=>hx ⟨i,hi,e⟩)]at ho;exact ho
section
variable{P:Program}{K:TypeId->Bool}{gl:List Value}
theorem Vp{B0:Nat}{R:FuncId->List Value->Mem->Option (Value×Mem)}(hgl:∀x∈gl,Free x)(hR:CU P B0 1 R)(hRg:B9 R){bs:List Nat}{ss:List BH}{f:FuncId}{as_ args:List Value}{M M' m:Mem}{v v':Value}
  (hM:Fits gl bs ss M) (hrun:R f as_ (mS gl ss)=some (v,m)) (ha:HQ (DH bs M) (λi=>Nat.blt i (1+bs.length)) as_ args) (hv:Vm (DH bs M) (λi=>Nat.blt i (1+bs.length)) v v')
  (h0:m.get 0= .cells false gl) (hm:∀i,0<i->i<=bs.length->okB (m.get i)/\seenB (1+bs.length) (m.get i))
  (ht:M'.top) (hsz':M'.size=M.size) (hat:∀i b,bs[i]?=some b->M'.get b=Gq (DH bs M) (m.get (i+1))) (hre:∀j,j<M.size->j∉bs->M'.get j=M.get j):
  EJ P B0 1 f args M v' M'/\EM M M':=by
 have hgr:=hRg _ _ _ _ _ hrun
 have hsz0:(mS gl ss).size=1+ss.length:=by unfold mS;rw[CQ,mG_size]
 have hsz:=hgr.size
 rw[hsz0,←hM.len]at hsz
 have hA:∀i:Nat,Nat.blt i (1+bs.length)=true->i<1+bs.length:=λi hi=>by simpa[Nat.blt_eq]using hi
 have hA':∀i:Nat,i<1+bs.length->Nat.blt i (1+bs.length)=true:=λi hi=>by simpa[Nat.blt_eq]using hi
 have hget:∀j,(mS gl ss).get j=if j<1 then(mG gl).get j else(match ss[j - 1]? with|some x=>x|none=>(mG gl).get j):=λj=>Bf ss (mG gl) j
 have hrho2:∀i,i<bs.length->∃b,bs[i]?=some b/\DH bs M (i+1)=b:=λi hi=>⟨bs[i],List.getElem?_eq_getElem hi,by
  show(match bs[i]? with|some b=>b|none=>M.size+(i - bs.length))=_;rw[List.getElem?_eq_getElem hi]⟩
 have hidx:∀i j b,bs[i]?=some b->bs[j]?=some b->i=j:=λi j b hb hc=>by
  obtain⟨hi,e1⟩:=List.getElem?_eq_some_iff.1 hb;obtain⟨hj,e2⟩:=List.getElem?_eq_some_iff.1 hc;exact(List.getElem_inj hM.nd).1 (e1.trans e2.symm)
 have hz:0∉bs->M'.get 0=M.get 0:=λh=>hre 0 hM.pos h
 have hloc:aw (DH bs M) (λi=>Nat.blt i (1+bs.length)) (mS gl ss) m M M':=by
  refine⟨λi hi=>(by rw[hsz0,←hM.len];exact hA i hi),hgr,λj hj=>?_,ht,λi hi=>?_,λi j hi hj _ _ e=>?_,hsz',λi hi=>?_,λi hi=>?_,λj hj hne=>?_⟩
  ·rw[hsz0]at hj;rw[hget,if_neg (by omega),List.getElem?_eq_none (by omega)];exact mG_top gl j (by rw[mG_size];omega)
  ·cases i with
   |zero=>exact hM.pos
   |succ i=>
    obtain⟨b,hb,e⟩:=hrho2 i (by have:=hA _ hi;omega);rw[e];exact hM.lt b (List.mem_of_getElem? hb)
  ·have hi:=hA i hi;have hj:=hA j hj;cases i with
   |zero=>
    cases j with
    |zero=>rfl
    |succ j=>
     obtain⟨b,hb,e2⟩:=hrho2 j (by omega);rw[e2]at e;have:b=0:=e.symm;subst this;exact absurd (List.mem_of_getElem? hb) hM.nz
   |succ i=>
    obtain⟨b,hb,e1⟩:=hrho2 i (by omega);cases j with
    |zero=>
     rw[e1]at e;have:b=0:=e;subst this;exact absurd (List.mem_of_getElem? hb) hM.nz
    |succ j=>
     obtain⟨c,hc,e2⟩:=hrho2 j (by omega);rw[e1,e2]at e;subst e;rw[hidx i j b hb hc]
  ·have hi':=hA i hi;cases i with
   |zero=>
    rw[hget,if_pos (by omega),mG_get];show QR _ _ _ (M.get 0);rw[hM.gl0];exact FH hgl
   |succ i=>
    obtain⟨b,hb,e⟩:=hrho2 i (by omega);have hs:i<ss.length:=by rw[←hM.len];omega
    rw[hget,if_neg (by omega),show i+1 - 1=i by omega,List.getElem?_eq_getElem hs,e,hM.at_ i b ss[i] hb (List.getElem?_eq_getElem hs)];obtain⟨q1,q2⟩:=hM.ok ss[i] (List.getElem_mem hs);exact bsim_ren q1 q2
  ·have hi':=hA i hi;cases i with
   |zero=>
    rw[h0];show Vn _ _ _ (M'.get 0);rw[hz hM.nz,hM.gl0];exact N3 hgl
   |succ i=>
    obtain⟨b,hb,e⟩:=hrho2 i (by omega);rw[e,hat i b hb];obtain⟨q1,q2⟩:=hm (i+1) (by omega) (by omega);exact PH q1 q2
  ·refine hre j hj λhmem=>?_;obtain⟨i,hi⟩:=List.getElem?_of_mem hmem;have hlt:i<bs.length:=(List.getElem?_eq_some_iff.1 hi).1;obtain⟨b,hb,e⟩:=hrho2 i hlt;rw[hi]at hb;cases hb;exact hne (i+1) (hA' _ (by omega)) e
 have hatM:∀j,j<M.size->j∈bs->∃i s,okB s/\M.get j=Gq (DH bs M) s/\(mS gl ss).get (i+1)=s/\i+1< (mS gl ss).size/\M'.get j=Gq (DH bs M) (m.get (i+1)):=λj hj hmem=>by
  obtain⟨i,hi⟩:=List.getElem?_of_mem hmem;have hlt:i<bs.length:=(List.getElem?_eq_some_iff.1 hi).1;have hs:i<ss.length:=by rw[←hM.len];exact hlt
  refine⟨i,ss[i],(hM.ok _ (List.getElem_mem hs)).1,hM.at_ i j _ hi (List.getElem?_eq_getElem hs),?_,by rw[hsz0];omega,hat i j hi⟩;rw[hget,if_neg (by omega),show i+1 - 1=i by omega,List.getElem?_eq_getElem hs]
 refine⟨ax 1 (λg hg=>⟨hg,by
  obtain rfl:g=0:=by omega
  exact hA' 0 (by omega),by
   obtain rfl:g=0:=by omega
   rfl⟩) (hR.ok _ _ _ _ _ hrun) hloc ha hv,⟨by omega,λ_=>ht,λj hj hl=>?_,λj hj ho=>?_⟩⟩
 ·by_cases hmem:j∈bs
  ·obtain⟨i,s,q1,q2,q3,q4,q5⟩:=hatM j hj hmem;rw[q5]at hl;have h1:=hgr.live (i+1) q4 (YN hl);rw[q3]at h1;rw[q2];exact YO q1 h1
  ·rw[hre j hj hmem]at hl;exact hl
 ·by_cases hmem:j∈bs
  ·obtain⟨i,s,q1,q2,q3,q4,q5⟩:=hatM j hj hmem;rw[q5]at ho;have h1:=hgr.own (i+1) q4 (ar ho);rw[q3]at h1;rw[q2];exact au q1 h1
  ·rw[hre j hj hmem]at ho;exact ho
theorem N4{B0:Nat}{R:FuncId->List Value->Mem->Option (Value×Mem)}(hgl:∀x∈gl,Free x)(hR:CU P B0 1 R)(hRg:B9 R){bs:List Nat}{ss:List BH}{f:FuncId}{as_ args:List Value}{M m:Mem}{v v':Value}
  (hM:Fits gl bs ss M) (hrun:R f as_ (mS gl ss)=some (v,m)) (ha:HQ (DH bs M) (λi=>Nat.blt i (1+bs.length)) as_ args) (hv:Vm (DH bs M) (λi=>Nat.blt i (1+bs.length)) v v')
  (h0:m.get 0= .cells false gl) (hm:∀i s,ss[i]?=some s->m.get (i+1)=s):EJ P B0 1 f args M v' M/\EM M M:=by
 refine Vp hgl hR hRg hM hrun ha hv h0 (λi h1 h2=>?_) hM.top rfl (λi b hb=>?_) (λ_ _ _=>rfl)
 ·have hi:i - 1<ss.length:=by rw[←hM.len];omega
  have:=hm (i - 1) ss[i - 1] (List.getElem?_eq_getElem hi);rw[show i - 1+1=i by omega]at this;rw[this];exact hM.ok _ (List.getElem_mem hi)
 ·have hlt:i<bs.length:=(List.getElem?_eq_some_iff.1 hb).1;have hi:i<ss.length:=by rw[←hM.len];exact hlt
  rw[hm i ss[i] (List.getElem?_eq_getElem hi)];exact hM.at_ i b _ hb (List.getElem?_eq_getElem hi)
end
end
end Kit
end Go.DI
namespace Go.DI
theorem Tr.upd_upd{α:Type}(k:Nat)(v w:α):∀l:List (Nat×α),Tr.upd k w (Tr.upd k v l)=Tr.upd k w l
 | []=>by
  show cond (Nat.beq k k) [(k,w)] _=_;rw[show Nat.beq k k=true from Nat.beq_refl k];rfl
 |(j,u)::l=>by
  cases hb:Nat.beq j k with
  |true=>
   have e1:Tr.upd k v ((j,u)::l)=(k,v)::l:=by simp only[Tr.upd,hb,cond_true]
   have e2:Tr.upd k w ((j,u)::l)=(k,w)::l:=by simp only[Tr.upd,hb,cond_true]
   rw[e1,e2];simp only[Tr.upd,show Nat.beq k k=true from Nat.beq_refl k,cond_true]
  |false=>
   have e1:∀v,Tr.upd k v ((j,u)::l)=(j,u)::Tr.upd k v l:=λv=>by simp only[Tr.upd,hb,cond_false]
   rw[e1 v,e1 w];show cond (Nat.beq j k) _ _=_;rw[hb,cond_false,upd_upd k v w l]
theorem Tr.put_new{α:Type}(k:Nat)(v w:α):∀(d p d':Nat),Tr.put (Tr.new d p k v) d' p k w=Tr.new d p k w
 |0,p,d'=>by
  show Tr.bucket (Tr.upd k w [(k,v)])= .bucket [(k,w)];simp only[Tr.upd,show Nat.beq k k=true from Nat.beq_refl k,cond_true]
 |d+1,p,d'=>by
  cases hb:Nat.beq (p % 2) 0 with
  |true=>simp only[Tr.new,hb,cond_true,Tr.put,put_new k v w d]
  |false=>simp only[Tr.new,hb,cond_false,Tr.put,put_new k v w d]
theorem Tr.put_put{α:Type}(k:Nat)(v w:α):∀(t:Tr α) (d p:Nat),Tr.put (Tr.put t d p k v) d p k w=Tr.put t d p k w
 | .nil,d,p=>Tr.put_new k v w d p d
 | .bucket l,d,p=>by simp only[Tr.put,Tr.upd_upd]
 | .node l r,d,p=>by
  cases hb:Nat.beq (p % 2) 0 with
  |true=>simp only[Tr.put,hb,cond_true,put_put k v w l]
  |false=>simp only[Tr.put,hb,cond_false,put_put k v w r]
theorem Mem.set_set(M:Mem)(p:Nat)(x y:BH):(M.set p x).set p y=M.set p y:=by
 simp only[Mem.set,Tr.put_put]
end Go.DI
namespace Go.Proofs.YtgjflcgmieiafaaGreatDoor
open Go Go.DI Go.DI.Kit Go.Proofs Go.Cmp
noncomputable section
open Classical in
def oS:CX:=λf a M=>match a with
 | [.pointer (some ⟨p,0,none⟩)]=>if f=28/\(∃l,GZ M p=p::l)/\Fits gl (GZ M p) (Kf M p) M then
   (match CJ Tryz.prog kp 1 oG 20 28 p1 (mS gl (Kf M p))with
    |some (v,m)=>if(EA v=true/\m.get 0= .cells false gl)/\(okB (m.get 1)/\seenB (1+(GZ M p).length) (m.get 1))/\∀i s,(Kf M p)[i+1]?=some s->m.get (i+2)=s then some (v,M.set p (Gq (DH (GZ M p) M) (m.get 1)))else none
    |none=>none)else none
 |_=>none
theorem qi{f:FuncId}(h:f≠28)(a:List Value)(M:Mem):oS f a M=none:=by
 unfold oS
 split
 ·rw[if_neg λg=>h g.1]
 ·rfl
theorem Qy{B0:Nat}{f:FuncId}{a:List Value}{M M':Mem}{v:Value}(h:oS f a M=some (v,M')):f=28/\EJ Tryz.prog B0 1 f a M v M'/\EM M M':=by
 unfold oS at h
 split at h
 case h_2=>cases h
 rename_i p
 by_cases hc:f=28/\(∃l,GZ M p=p::l)/\Fits gl (GZ M p) (Kf M p) M
 case neg=>rw[if_neg hc]at h;cases h
 rw[if_pos hc]at h
 obtain⟨rfl,⟨l,hl⟩,hF⟩:=hc
 obtain⟨R,hR⟩:∃R,CJ Tryz.prog kp 1 oG 20 28 p1 (mS gl (Kf M p))=R:=⟨_,rfl⟩
 rw[hR]at h
 cases R with
 |none=>cases h
 |some r=>
 obtain⟨v0,m⟩:=r
 simp only at h
 by_cases hk:(EA v0=true/\m.get 0= .cells false gl)/\(okB (m.get 1)/\seenB (1+(GZ M p).length) (m.get 1))/\∀i s,(Kf M p)[i+1]?=some s->m.get (i+2)=s
 case neg=>rw[if_neg hk]at h;cases h
 rw[if_pos hk]at h
 simp only[Option.some.injEq,Prod.mk.injEq]at h
 obtain⟨rfl,rfl⟩:=h
 obtain⟨⟨k1,k2⟩,⟨k3,k4⟩,k5⟩:=hk
 have hp:p<M.size:=hF.lt p (by rw[hl];exact List.mem_cons_self ..)
 have hfree:Free v0:=by cases v0<;>simp[EA]at k1<;>first|exact CH _ _|exact Dn _
 have hnd:p∉l:=by have:=hF.nd;rw[hl]at this;exact(List.nodup_cons.1 this).1
 refine⟨rfl,Vp (B0:=B0) (R:=CJ Tryz.prog kp 1 oG 20) CO (Cr Bw hK Ee (di.1 B0) di.2 20) (CL di.2 20) hF hR (.cons ?_ .nil) (hfree.embA _ _) k2 (λi h0 h7=>?_) (FU hF.top hp) rfl (λi b hb=>?_) (λj _ hj=>?_)⟩
 ·have e:Value.pointer (some ⟨p,0,none⟩)= .pointer (some ⟨DH (GZ M p) M 1,0,none⟩):=by
   rw[show DH (GZ M p) M 1=p by rw[hl];rfl]
  rw[e];refine Vk (ρ:=DH (GZ M p) M) ?_;rw[hl];show Nat.blt 1 (1+(l.length+1))=true;simp[Nat.blt_eq]
 ·by_cases e:i=1
  ·subst e;exact⟨k3,k4⟩
  ·obtain⟨j,rfl⟩:∃j,i=j+2:=⟨i - 2,by omega⟩;have hj:j+1< (Kf M p).length:=by rw[←hF.len];omega
   rw[k5 j _ (List.getElem?_eq_getElem hj)];exact hF.ok _ (List.getElem_mem hj)
 ·cases i with
  |zero=>
   rw[hl]at hb;have hb:some p=some b:=hb;cases hb;exact Mem.get_set_same ..
  |succ i=>
   have hlt:i+1< (GZ M p).length:=(List.getElem?_eq_some_iff.1 hb).1;have hj:i+1< (Kf M p).length:=by rw[←hF.len];exact hlt
   have hne:b≠p:=by
    rintro rfl;rw[hl]at hb;exact hnd (List.mem_of_getElem? (show l[i]?=some b from hb))
   rw[Mem.get_set_ne _ hne,k5 i _ (List.getElem?_eq_getElem hj)];exact hF.at_ (i+1) b _ hb (List.getElem?_eq_getElem hj)
 ·refine Mem.get_set_ne _ ?_ _;rintro rfl;rw[hl]at hj;exact hj (List.mem_cons_self ..)
theorem cM:B9 oS:=λf a M v M' h=>(Qy (B0:=0) h).2.2
theorem nN(B0:Nat):CU Tryz.prog B0 1 oS:=⟨λf a M v M' h=>(cM f a M v M' h).size,λf a M v M' h=>(Qy h).2.1,λf a M v M' h=>by
 obtain rfl:=(Qy (B0:=0) h).1
 exact hasB (by kernel_rfl)⟩
def FN(mm c t k tm ch n np:Nat)(sp:Option Nat)(port:Int)(regs:List Value)(at_ st:Int)(over:Bool):BH:=
 .cells true (.slice (some ⟨mm,0,none⟩) 0 0:: .slice (some ⟨c,0,some 5⟩) n n:: .slice (some ⟨t,0,none⟩) 0 0:: .slice (some ⟨k,0,sp⟩) np np:: .int .u32 port:: .slice (some ⟨tm,0,none⟩) 0 0:: .slice (some ⟨ch,0,none⟩) 0 0::P6 regs at_ st over)
structure L6(M:Mem)(p c k t mm tm ch:Nat)(l:List Bb)(pk:List Int):Prop where
 top:M.top
 gl0:M.get 0= .cells false gl
 pos:1<=M.size
 lt:∀b∈ [p,c,k,t,mm,tm,ch],b<M.size
 nz:0∉ [p,c,k,t,mm,tm,ch]
 nd: [p,c,k,t,mm,tm,ch].Nodup
 gc:M.get c= .cells true (AE l)
 gk:M.get k= .cells true (AH pk)
 gt:M.get t=GV
 gm:M.get mm=GV
 gtm:M.get tm=GV
 gch:M.get ch=GV
section
variable{M:Mem}{p c k t mm tm ch:Nat}{l:List Bb}{pk:List Int}{sp:Option Nat}{port:Int}{r r':Int->RV}{at_ st at' st':Nat}{over:Bool}
theorem L6.set(h:L6 M p c k t mm tm ch l pk)(x:BH):L6 (M.set p x) p c k t mm tm ch l pk:=by
 have hnd:=h.nd
 simp only[List.nodup_cons,List.mem_cons,List.not_mem_nil,or_false,not_or]at hnd
 have hz:0≠p:=λe=>h.nz (by rw[e];simp)
 obtain⟨⟨n1,n2,n3,n4,n5,n6⟩,_⟩:=hnd
 refine⟨FU h.top (h.lt p (by simp)),?_,h.pos,h.lt,h.nz,h.nd,?_,?_,?_,?_,?_,?_⟩
 ·rw[Mem.get_set_ne _ hz];exact h.gl0
 ·rw[Mem.get_set_ne _ (Ne.symm n1)];exact h.gc
 ·rw[Mem.get_set_ne _ (Ne.symm n2)];exact h.gk
 ·rw[Mem.get_set_ne _ (Ne.symm n3)];exact h.gt
 ·rw[Mem.get_set_ne _ (Ne.symm n4)];exact h.gm
 ·rw[Mem.get_set_ne _ (Ne.symm n5)];exact h.gtm
 ·rw[Mem.get_set_ne _ (Ne.symm n6)];exact h.gch
theorem L6.fits(h:L6 M p c k t mm tm ch l pk)(g:M.get p=FN mm c t k tm ch l.length pk.length sp port (AR r) (at_:Int) (st:Int) over):
  Fits gl [p,c,k,t,mm,tm,ch] (jt (AE l) (AH pk) (AS l.length) (Fb pk sp) port (AR r) (at_:Int) (st:Int) over 0) M:=by
 refine⟨h.top,h.gl0,h.pos,rfl,h.lt,h.nz,h.nd,λi b s hi hs=>?_,da l pk sp port r (at_:Int) (st:Int) over⟩
 rcases i with _|_|_|_|_|_|_|i
 ·cases hi;cases hs;rw[g,Qr];rfl
 ·cases hi;cases hs;rw[h.gc];show _=BH.cells true _;rw[CW (BT l)]
 ·cases hi;cases hs;rw[h.gk];show _=BH.cells true _;rw[CW (C3 pk)]
 ·cases hi;cases hs;rw[h.gt];rfl
 ·cases hi;cases hs;rw[h.gm];rfl
 ·cases hi;cases hs;rw[h.gtm];rfl
 ·cases hi;cases hs;rw[h.gch];rfl
 ·cases hi
theorem L6.of(h:L6 M p c k t mm tm ch l pk)(g:M.get p=FN mm c t k tm ch l.length pk.length sp port (AR r) (at_:Int) (st:Int) over):
  GZ M p= [p,c,k,t,mm,tm,ch]/\Kf M p=jt (AE l) (AH pk) (AS l.length) (Fb pk sp) port (AR r) (at_:Int) (st:Int) over 0:=by
 have hb:GZ M p= [p,c,k,t,mm,tm,ch]:=by unfold GZ;rw[g];rfl
 refine⟨hb,?_⟩
 unfold Kf
 rw[hb]
 show zO (M.get p):: [M.get c,M.get k,M.get t,M.get mm,M.get tm,M.get ch]=_
 rw[g,h.gc,h.gk,h.gt,h.gm,h.gtm,h.gch]
 rfl
theorem kC(h:L6 M p c k t mm tm ch l pk)(g:M.get p=FN mm c t k tm ch l.length pk.length sp port (AR r) (at_:Int) (st:Int) false)(hs:Wn l pk sp port r at_ st r' at' st' over):
  oS 28 [.pointer (some ⟨p,0,none⟩)] M=some (.bool true,M.set p (FN mm c t k tm ch l.length pk.length sp port (AR r') (at':Int) (st':Int) over)):=by
 obtain⟨v,m,hrun,hl⟩:=hs
 obtain⟨e1,e2⟩:=h.of g
 have hF:=h.fits g
 simp only[S8,CE,seenV,Prod.mk.injEq]at hl
 obtain⟨rfl,q0,q1,q2,q3,q4,q5,q6,q7⟩:=hl
 have hv:=da l pk sp port r' (at':Int) (st':Int) over
 have hv1:=hv _ (List.mem_cons_self ..)
 unfold oS
 simp only
 rw[e1,e2,if_pos ⟨rfl,⟨_,rfl⟩,hF⟩]
 have hrun':CJ Tryz.prog kp 1 oG 20 28 p1 (mS gl (jt (AE l) (AH pk) (AS l.length) (Fb pk sp) port (AR r) (at_:Int) (st:Int) false 0))=some (.bool true,m):=hrun
 rw[hrun']
 simp only
 have hk:(EA (.bool true)=true/\m.get 0= .cells false gl)/\(okB (m.get 1)/\seenB (1+ [p,c,k,t,mm,tm,ch].length) (m.get 1))/\∀i s,(jt (AE l) (AH pk) (AS l.length) (Fb pk sp) port (AR r) (at_:Int) (st:Int) false 0)[i+1]?=some s->m.get (i+2)=s:=by
  refine⟨⟨rfl,q0⟩,⟨by rw[q1];exact hv1.1,by rw[q1];exact hv1.2⟩,λi s hi=>?_⟩;rcases i with _|_|_|_|_|_|i
  ·exact q2.trans (Option.some.inj hi)
  ·exact q3.trans (Option.some.inj hi)
  ·exact q4.trans (Option.some.inj hi)
  ·exact q5.trans (Option.some.inj hi)
  ·exact q6.trans (Option.some.inj hi)
  ·exact q7.trans (Option.some.inj hi)
  ·cases hi
 rw[if_pos hk,q1,Qr]
 rfl
end
end
end Go.Proofs.YtgjflcgmieiafaaGreatDoor
namespace Go.Cmp
open Go Go.DI
inductive ZG:Bb->Prop
 |movI {d n:Int}:CM d->ZG (D4 11 d n)
 |andI {d n:Int}:CM d->ZG (D4 5 d n)
 |movR {d s:Int}:CM d->CM s->ZG (Bk 11 d s)
 |andR {d s:Int}:CM d->CM s->ZG (Bk 5 d s)
 |low {n:Int}:ZG (HE n)
 |exit:ZG D0
 |load {z d s o:Int}:RA z->CM d->CM s->ZG (BL z d s o)
 |swap {z:Int}:RA z->1<z->ZG (Cm z)
inductive pt:Bb->Prop
 |jif {op d n:Int}:oT op->CM d->pt (DU op d n)
 |jifR {op:Int}:op=10\/op=2->pt (Ez op)
 |goto:pt CD
inductive Un:List BA->Prop
 |nil:Un []
 |lab {l:Nat} {s:List BA}:Un s->Un (lab (l+1)::s)
 |one {x:Bb} {s:List BA}:ZG x->Un s->Un (ins x 0::s)
 |jump {x:Bb} {l:Nat} {s:List BA}:pt x->Un s->Un (ins x (l+1)::s)
 |two {n:Int} {s:List BA}:Un s->Un (ins (Bs n) 0::ins (DQ n) 0::s)
theorem Un.append{a b:List BA}(ha:Un a)(hb:Un b):Un (a++b):=by
 induction ha with
 |nil=>exact hb
 |lab _ ih=>exact .lab ih
 |one h _ ih=>exact .one h ih
 |jump h _ ih=>exact .jump h ih
 |two _ ih=>exact .two ih
theorem rg(d:Int)(h0:0<=d)(h1:d<=9):CM d:=⟨h0,h1⟩
theorem GB:Un A9:= .one (.movI (rg 2 (by decide) (by decide))) (.one (.movI (rg 3 (by decide) (by decide))) (.one (.load (.inr (.inr (.inl rfl))) (rg 8 (by decide) (by decide)) (rg 6 (by decide) (by decide))) .nil))
theorem aO(v:Int):Un (Eg v):= .one .low (.one .exit .nil)
theorem QA(a o:Nat)(n:Int):Un (Cv (a+1) n (o+1)):= .jump (.jif (.inl rfl) (rg 8 (by decide) (by decide))) (.jump .goto (.lab .nil))
theorem Ve{op:Int}(h:op=10\/op=2)(n:Int)(o:Nat):Un (Dp op n (o+1)):=by
 unfold Dp
 split
 ·exact .jump (.jif (by rcases h with rfl|rfl<;>simp[oT]) (rg 2 (by decide) (by decide))) .nil
 ·exact .two (.jump (.jifR h) .nil)
theorem Vf{t:A8}(hz:RA t.size)(o d:Nat):∀m k n:Nat,Un (Cb t (o+1) (d+1) m k n)
 |0,_,_=> .nil
 |m+1,k,n=>by
  have h1:Un [ins (DU 5 2 k) (if k=15 then o+1 else n+1)]:=by
   split<;>exact .jump (.jif (.inr (.inl rfl)) (rg 2 (by decide) (by decide))) .nil
  exact((h1.append (QA (n+1) o _)).append (.one (.load hz (rg 2 (by decide) (by decide)) (rg 7 (by decide) (by decide))) (.jump .goto (.lab .nil)))).append (Vf hz o d m (k+1) (n+2))
theorem pw{t:A8}(hW:Jz t)(n:Nat):Un (FZ t n):=by
 have h2:=rg 2 (by decide) (by decide)
 unfold FZ
 split
 ·exact .one (.movR h2 (rg 8 (by decide) (by decide))) .nil
 split
 ·exact .one (.load (.inr (.inr (.inl rfl))) h2 (rg 6 (by decide) (by decide))) .nil
 rename_i k1 k2
 obtain⟨hk,_,hz,_⟩:(t.kind=3\/t.kind=4)/\B2 t=true/\RA t.size/\True:=by
  rcases hW.kind with⟨hk,_⟩|⟨hk,hb,hz,_⟩
  ·omega
  ·exact⟨hk,hb,hz,trivial⟩
 split
 ·exact(QA (n+2) n _).append (.one (.load hz h2 (rg 7 (by decide) (by decide))) .nil)
 ·exact(((QA (n+3) n _).append (.one (.load (.inl rfl) h2 (rg 7 (by decide) (by decide))) (.one (.andI h2) .nil))).append (Vf hz n (n+2) 16 0 (n+4))).append (.lab .nil)
theorem jC{t:A8}(hW:Jz t):Un (Dr t):=by
 unfold Dr
 split
 ·rename_i hb
  have hz:RA t.size:=by
   rcases hW.kind with⟨_,hb',_⟩|⟨_,_,hz,_⟩
   ·rw[hb]at hb';cases hb'
   ·exact hz
  refine Un.append ?_ ?_
  ·split
   ·rename_i h1;exact .one (.swap hz h1) .nil
   ·exact .nil
  ·split
   ·exact .nil
   split
   ·exact .one (.andI (rg 2 (by decide) (by decide))) .nil
   ·exact .two (.one (.andR (rg 2 (by decide) (by decide)) (rg 3 (by decide) (by decide))) .nil)
 ·exact .nil
theorem aP(t:A8)(o:Nat):Un (EV t (o+1)):=by
 unfold EV
 refine Un.append ?_ ?_
 ·split
  ·exact Ve (.inl rfl) _ _
  ·exact .nil
 ·split
  ·exact Ve (.inr rfl) _ _
  ·exact .nil
theorem px(t:A8)(n f:Nat):Un (endS t (n+1) (n+2) (f+1)):=by
 unfold endS
 split
 ·exact GB.append (.jump .goto (.lab (.lab .nil)))
 ·exact(((Un.jump .goto (.lab .nil)).append GB).append (.jump .goto (.lab .nil)))
theorem jD{t:A8}(hW:Jz t)(f n:Nat):Un (F0 t (f+1) n):=(((GB.append (pw hW n)).append (jC hW)).append (aP t n)).append (px t n f)
theorem RX(f:Nat):∀(ts:List A8) (n:Nat),(∀t∈ts,Jz t)->Un (C7 (f+1) ts n)
 | [],_,_=> .nil
 |t::ts,n,h=>(jD (h t (by simp)) f n).append (RX f ts _ λx hx=>h x (by simp[hx]))
theorem jE{r0:BB}(hW:KA r0)(n:Nat):Un (HB r0 n):=by
 have h:Un (if r0.tests= []then [ins (DU 5 2 0) (n+1)]else []):=by
  split
  ·exact .jump (.jif (.inr (.inl rfl)) (rg 2 (by decide) (by decide))) .nil
  ·exact .nil
 exact(((GB.append h).append (RX n r0.tests (n+1) hW.tests)).append (aO _)).append (.lab .nil)
theorem NH:∀(l:List BB) (n:Nat),(∀x∈l,KA x)->Un (CT l n)
 | [],_,_=> .nil
 |r0::l,n,h=>(jE (h r0 (by simp)) n).append (NH l _ λx hx=>h x (by simp[hx]))
theorem RY{l:List BB}(h:∀x∈l,KA x):Un (BU l):=
 ((Un.append (.one (.movR (rg 6 (by decide) (by decide)) (rg 1 (by decide) (by decide))) (.one (.load (.inr (.inr (.inr rfl))) (rg 7 (by decide) (by decide)) (rg 1 (by decide) (by decide))) .nil)) (NH l 0 h)).append GB).append (aO 0)
def RZ(x:Bb):Nat:=if x.op=24 then 2 else 1
def Bp(c:List Bb):Nat->Nat->List Nat
 |0,_=> []
 |k+1,p=>match c[p]? with|some x=>p::Bp c k (p+RZ x)|none=> []
def A5(c:List Bb):List Nat:=Bp c c.length 0
def II:List BA->Bool->Nat->List Nat
 | [],_,_=> []
 |_::s,true,n=>II s false n
 |r::s,false,n=>if B8 r=true then II s false n else if r.i.op=24 then n::II s true (n+2)else n::II s false (n+1)
def DW(l:List BA)(n:Nat):List Nat:=II l false n
theorem J0{x:Bb}(h:ZG x):x.op≠24:=by
 cases h with
 |load hz=>rcases hz with rfl|rfl|rfl|rfl<;>simp[BL,aG]
 |_=>simp[D4,Bk,HE,D0,Cm]
theorem LD{x:Bb}(h:pt x):x.op≠24:=by
 cases h with
 |jif h=>rcases h with rfl|rfl|rfl|rfl<;>simp[DU]
 |jifR h=>rcases h with rfl|rfl<;>simp[Ez]
 |goto=>simp[CD]
theorem HI(l n:Nat)(s:List BA):DW (lab (l+1)::s) n=DW s n:=by simp[DW,II,B8,lab]
theorem Dw{x:Bb}(to n:Nat)(s:List BA)(h:x.op≠24):DW (ins x to::s) n=n::DW s (n+1):=by simp[DW,II,B8,ins,h]
theorem IJ(m:Int)(n:Nat)(s:List BA):DW (ins (Bs m) 0::ins (DQ m) 0::s) n=n::DW s (n+2):=by simp[DW,II,B8,ins,Bs]
theorem QB(pre suf:List BA)(x:Bb)(to:Nat):∃y,(Bh (pre++ins x to::suf))[B6 pre]?=some y/\y.op=x.op:=by
 refine⟨_,EP pre suf x to,?_⟩
 split
 ·rfl
 ·rfl
theorem KG{rows:List BA}:∀{suf:List BA},Un suf->∀(pre:List BA) (k:Nat),rows=pre++suf->B6 suf<=k->Bp (Bh rows) k (B6 pre)=DW suf (B6 pre):=by
 intro suf h
 induction h with
 |nil=>
  intro pre k hp hk;have hlen:(Bh rows).length=B6 pre:=by unfold Bh;rw[CG,hp,List.append_nil]
  cases k with
  |zero=>rfl
  |succ k=>
   simp only[Bp];rw[List.getElem?_eq_none (by omega)];rfl
 | @lab l s _ ih=>
  intro pre k hp hk;have e:B6 (pre++ [Go.Cmp.lab (l+1)])=B6 pre:=by rw[Bl];simp[B6,B8,Go.Cmp.lab]
  have hc:B6 (Go.Cmp.lab (l+1)::s)=B6 s:=by simp[B6,B8,Go.Cmp.lab]
  have:=ih (pre++ [Go.Cmp.lab (l+1)]) k (by rw[hp];simp) (by omega);rw[e]at this;rw[HI];exact this
 | @one x s hx _ ih=>
  intro pre k hp hk;have e:B6 (pre++ [ins x 0])=B6 pre+1:=by rw[Bl];simp[B6,B8,ins]
  have hc:B6 (ins x 0::s)=B6 s+1:=by simp[B6,B8,ins]
  obtain⟨k,rfl⟩:∃k',k=k'+1:=⟨k - 1,by omega⟩;obtain⟨y,hy,hop⟩:=QB pre s x 0;rw[←hp]at hy;have:=ih (pre++ [ins x 0]) k (by rw[hp];simp) (by omega);rw[e]at this;rw[Dw 0 _ s (J0 hx)];simp only[Bp,hy];rw[show RZ y=1 by unfold RZ;rw[hop,if_neg (J0 hx)],this]
 | @jump x l s hx _ ih=>
  intro pre k hp hk;have e:B6 (pre++ [ins x (l+1)])=B6 pre+1:=by rw[Bl];simp[B6,B8,ins]
  have hc:B6 (ins x (l+1)::s)=B6 s+1:=by simp[B6,B8,ins]
  obtain⟨k,rfl⟩:∃k',k=k'+1:=⟨k - 1,by omega⟩;obtain⟨y,hy,hop⟩:=QB pre s x (l+1);rw[←hp]at hy;have:=ih (pre++ [ins x (l+1)]) k (by rw[hp];simp) (by omega);rw[e]at this;rw[Dw (l+1) _ s (LD hx)];simp only[Bp,hy];rw[show RZ y=1 by unfold RZ;rw[hop,if_neg (LD hx)],this]
 | @two n s _ ih=>
  intro pre k hp hk;have e:B6 (pre++ [ins (Bs n) 0,ins (DQ n) 0])=B6 pre+2:=by rw[Bl];simp[B6,B8,ins]
  have hc:B6 (ins (Bs n) 0::ins (DQ n) 0::s)=B6 s+2:=by simp[B6,B8,ins]
  obtain⟨k,rfl⟩:∃k',k=k'+1:=⟨k - 1,by omega⟩;obtain⟨y,hy,hop⟩:=QB pre (ins (DQ n) 0::s) (Bs n) 0;rw[←hp]at hy;have:=ih (pre++ [ins (Bs n) 0,ins (DQ n) 0]) k (by rw[hp];simp) (by omega);rw[e]at this;rw[IJ];simp only[Bp,hy];rw[show RZ y=2 by unfold RZ;rw[hop];rfl,this]
variable{rows suf:List BA}
def HJ(l:List BA):List Nat:=(l.filter λr=>decide (0<r.to)).map (·.to)
theorem D6(a b:List BA):HJ (a++b)=HJ a++HJ b:=by simp[HJ]
theorem F3(x:Bb)(l:List BA):HJ (ins x 0::l)=HJ l:=by simp[HJ,ins]
theorem Ii(x:Bb)(n:Nat)(l:List BA):HJ (ins x (n+1)::l)=(n+1)::HJ l:=by simp[HJ,ins]
theorem KH(n:Nat)(l:List BA):HJ (lab n::l)=HJ l:=by simp[HJ,lab]
theorem FW:HJ []= []:=rfl
theorem NI(a o:Nat)(n:Int):HJ (Cv (a+1) n (o+1))= [a+1,o+1]:=by simp[Cv,Ii,KH,FW]
theorem R1(op n:Int)(o:Nat):∀x∈HJ (Dp op n (o+1)),x=o+1:=by
 intro x hx
 unfold Dp at hx
 split at hx<;>simp[Ii,F3,FW]at hx<;>omega
theorem R2(t:A8)(o d:Nat):∀m k n:Nat,∀x∈HJ (Cb t (o+1) (d+1) m k n),x=o+1\/x=d+1\/n<x/\x<=n+2*m
 |0,_,_,x,h=>by simp[Cb,HJ]at h
 |m+1,k,n,x,h=>by
  have e:Cb t (o+1) (d+1) (m+1) k n= [ins (DU 5 2 k) ((if k=15 then o else n)+1)]++Cv (n+1+1) (14+4*(k:Int)+t.pos+t.size) (o+1)++ [ins (BL t.size 2 7 (14+4*(k:Int)+t.pos)) 0,ins CD (d+1),lab (n+1)]++Cb t (o+1) (d+1) m (k+1) (n+2):=by
   by_cases hk:k=15<;>simp[Cb,hk]
  rw[e]at h;simp only[D6,NI,Ii,F3,KH,FW,List.mem_append,List.mem_cons,List.not_mem_nil,or_false]at h;rcases h with((h|h|h)|h)|h
  ·by_cases hk:k=15
   ·rw[if_pos hk]at h;omega
   ·rw[if_neg hk]at h;omega
  ·omega
  ·omega
  ·omega
  ·have:=R2 t o d m (k+1) (n+2) x h;omega
theorem JJ(t:A8)(o d:Nat):∀m k n x:Nat,n<x->x<=n+2*m->x∈AO (Cb t o d m k n)
 |0,_,_,x,h1,h2=>by omega
 |m+1,k,n,x,h1,h2=>by
  simp only[Cb,BQ,Fz,DP,Dj,List.mem_append];by_cases e1:x=n+1
  ·left;right;rw[e1];simp[AO]
  ·by_cases e2:x=n+2
   ·left;left;right;simp[e2]
   ·right;exact JJ t o d m (k+1) (n+2) x (by omega) (by omega)
theorem jF(t:A8)(n:Nat):∀x∈HJ (FZ t n),x=n+1\/x∈AO (FZ t n):=by
 intro x hx
 unfold FZ at hx ⊢
 by_cases h1:t.kind=1
 ·rw[if_pos h1]at hx;simp[F3,FW]at hx
 ·rw[if_neg h1]at hx ⊢;by_cases h2:t.kind=2
  ·rw[if_pos h2]at hx;simp[F3,FW]at hx
  ·rw[if_neg h2]at hx ⊢;by_cases h3:t.kind=3
   ·rw[if_pos h3]at hx ⊢;rw[D6,NI,F3,FW]at hx;rw[BQ,Fz];simp at hx ⊢;omega
   ·rw[if_neg h3]at hx ⊢;rw[D6,D6,D6,NI,F3,F3,FW,KH,FW]at hx;rw[BQ,BQ,BQ,Fz];simp only[List.mem_append,List.mem_cons,List.not_mem_nil,or_false]at hx ⊢;have key:n+3∈AO [lab (n+3)]:=by rw[Dj];simp
    rcases hx with(hx|hx)|hx
    ·right;left;left;left;exact hx
    ·left;exact hx
    ·have:=R2 t n (n+2) 16 0 (n+4) x hx;rcases this with h|h|h
     ·left;exact h
     ·right;right;rw[h];exact key
     ·right;left;right;exact JJ t (n+1) (n+3) 16 0 (n+4) x h.1 (by omega)
theorem aQ(t:A8):HJ (Dr t)= []:=by
 unfold Dr
 split
 ·rw[D6];split<;>split<;>(try split)<;>simp[HJ,ins]
 ·rfl
theorem Xx(t:A8)(o:Nat):∀x∈HJ (EV t (o+1)),x=o+1:=by
 intro x hx
 unfold EV at hx
 rw[D6]at hx
 rcases List.mem_append.1 hx with hx|hx
 ·split at hx
  ·exact R1 _ _ _ x hx
  ·simp[HJ]at hx
 ·split at hx
  ·exact R1 _ _ _ x hx
  ·simp[HJ]at hx
theorem jG(t:A8)(n f:Nat):∀x∈HJ (endS t (n+1) (n+2) (f+1)),x=n+2\/x=f+1:=by
 intro x hx
 unfold endS at hx
 split at hx<;>simp[A9,Ii,F3,KH,FW]at hx<;>omega
theorem aR(t:A8)(f n:Nat):∀x∈HJ (F0 t (f+1) n),x=f+1\/x∈AO (F0 t (f+1) n):=by
 intro x hx
 have hl:∀y,y∈AO (F0 t (f+1) n)↔y∈AO (FZ t n)\/y=n+1\/y=n+2:=λy=>by
  unfold F0;rw[BQ,BQ,BQ,BQ,Ku,JY,Mz];simp[AO,B8,A9,ins]
 rw[hl]
 unfold F0 at hx
 rw[D6,D6,D6,D6,aQ]at hx
 simp only[List.mem_append]at hx
 rcases hx with(((hx|hx)|hx)|hx)|hx
 ·simp[HJ,A9,ins]at hx
 ·rcases jF t n x hx with h|h
  ·right;right;left;exact h
  ·right;left;exact h
 ·simp at hx
 ·right;right;left;exact Xx t n x hx
 ·rcases jG t n f x hx with h|h
  ·right;right;right;exact h
  ·left;exact h
theorem Ov(f:Nat):∀(ts:List A8) (n:Nat),∀x∈HJ (C7 (f+1) ts n),x=f+1\/x∈AO (C7 (f+1) ts n)
 | [],_,x,h=>by simp[C7,HJ]at h
 |t::ts,n,x,h=>by
  simp only[C7,D6,BQ,List.mem_append]at h ⊢;rcases h with h|h
  ·rcases aR t f n x h with h|h
   ·left;exact h
   ·right;left;exact h
  ·rcases Ov f ts _ x h with h|h
   ·left;exact h
   ·right;right;exact h
theorem aT(r0:BB)(n:Nat):∀x∈HJ (HB r0 n),x∈AO (HB r0 n):=by
 intro x hx
 have e:=Kv r0 n []
 rw[List.append_nil]at e
 rw[e]at hx ⊢
 simp only[D6,BQ,List.mem_append]at hx ⊢
 have key:n+1∈AO [lab (n+1)]:=by rw[Dj];simp
 rcases hx with hx|hx|hx|hx|hx
 ·simp[HJ,A9,ins]at hx
 ·split at hx
  ·rw[Ii,FW]at hx;right;right;right;right;rw[show x=n+1 by simpa using hx];exact key
  ·simp[HJ]at hx
 ·rcases Ov n r0.tests (n+1) x hx with h|h
  ·right;right;right;right;rw[h];exact key
  ·right;right;left;exact h
 ·simp[HJ,Eg,ins]at hx
 ·rw[KH]at hx;simp[HJ]at hx
theorem Ow:∀(l:List BB) (n:Nat),∀x∈HJ (CT l n),x∈AO (CT l n)
 | [],_,x,h=>by simp[CT,HJ]at h
 |r0::l,n,x,h=>by
  simp only[CT,D6,BQ,List.mem_append]at h ⊢;rcases h with h|h
  ·left;exact aT r0 n x h
  ·right;exact Ow l _ x h
theorem Xy(l:List BB):∀x∈HJ (BU l),x∈AO (BU l):=by
 intro x hx
 unfold BU at hx ⊢
 simp only[D6,BQ,List.mem_append]at hx ⊢
 rcases hx with((hx|hx)|hx)|hx
 ·simp[HJ,ins]at hx
 ·left;left;right;exact Ow l 0 x hx
 ·simp[HJ,A9,ins]at hx
 ·simp[HJ,Eg,ins]at hx
theorem Ox:∀{s:List BA},Un s->0<B6 s->∀n,∃l,DW s n=n::l
 |_, .nil,h,_=>by simp[B6]at h
 |_, .lab (l:=l) (s:=s) hs,h,n=>by
  rw[HI];exact Ox hs (by simpa[B6,B8,lab]using h) n
 |_, .one (x:=y) (s:=s) hx hs,_,n=>⟨_,Dw 0 n s (J0 hx)⟩
 |_, .jump (x:=y) (l:=l) (s:=s) hx hs,_,n=>⟨_,Dw (l+1) n s (LD hx)⟩
 |_, .two (n:=m) (s:=s) hs,_,n=>⟨_,IJ m n s⟩
end Go.Cmp
namespace Go.Cmp
open Go Go.DI
variable{rows suf:List BA}
theorem R3(l:Nat)(s:List BA):B6 (lab (l+1)::s)=B6 s:=by simp[B6,B8,lab]
theorem Ej(x:Bb)(to:Nat)(s:List BA):B6 (ins x to::s)=B6 s+1:=by simp[B6,B8,ins]
theorem R4{a:List BA}(ha:Un a)(b:List BA):∀n,DW (a++b) n=DW a n++DW b (n+B6 a):=by
 induction ha with
 |nil=>intro n;simp[DW,II,B6]
 |lab _ ih=>intro n;rw[List.cons_append,HI,HI,ih,R3]
 | @one x s hx _ ih=>intro n;rw[List.cons_append,Dw 0 _ _ (J0 hx),Dw 0 _ _ (J0 hx),ih,Ej,List.cons_append,show n+1+B6 s=n+(B6 s+1)by omega]
 | @jump x l s hx _ ih=>intro n;rw[List.cons_append,Dw (l+1) _ _ (LD hx),Dw (l+1) _ _ (LD hx),ih,Ej,List.cons_append,show n+1+B6 s=n+(B6 s+1)by omega]
 | @two m s _ ih=>intro n;rw[List.cons_append,List.cons_append,IJ,IJ,ih,Ej,Ej,List.cons_append,show n+2+B6 s=n+(B6 s+1+1)by omega]
theorem Tk{l:List BA}{x:Nat}(h:Un l):x∈AO l->∃a j b,x=j+1/\l=a++lab (j+1)::b/\j+1∉AO b/\Un a/\Un b:=by
 induction h with
 |nil=>intro h;simp[AO]at h
 | @lab l s hs ih=>
  intro h;by_cases hx:x∈AO s
  ·obtain⟨a,j,b,e1,e2,e3,e4,e5⟩:=ih hx;exact⟨Go.Cmp.lab (l+1)::a,j,b,e1,by rw[e2];rfl,e3, .lab e4,e5⟩
  ·rw[Dj]at h
   have e:x=l+1:=by
    rcases List.mem_cons.1 h with h|h
    ·exact h
    ·exact absurd h hx
   exact⟨[],l,s,e,rfl,by rw[←e];exact hx, .nil,hs⟩
 | @one y s hy hs ih=>
  intro h;rw[DP]at h;obtain⟨a,j,b,e1,e2,e3,e4,e5⟩:=ih h;exact⟨ins y 0::a,j,b,e1,by rw[e2];rfl,e3, .one hy e4,e5⟩
 | @jump y l s hy hs ih=>
  intro h;rw[DP]at h;obtain⟨a,j,b,e1,e2,e3,e4,e5⟩:=ih h;exact⟨ins y (l+1)::a,j,b,e1,by rw[e2];rfl,e3, .jump hy e4,e5⟩
 | @two n s hs ih=>
  intro h;rw[DP,DP]at h;obtain⟨a,j,b,e1,e2,e3,e4,e5⟩:=ih h;exact⟨ins (Bs n) 0::ins (DQ n) 0::a,j,b,e1,by rw[e2];rfl,e3, .two e4,e5⟩
theorem R5:∀{l:List BA},B6 l=0->∀x∈l,B8 x=true
 | [],_,x,h=>by simp at h
 |r::l,h,x,hx=>by
  simp only[B6]at h;by_cases hr:B8 r=true
  ·rw[if_pos hr]at h;rcases List.mem_cons.1 hx with rfl|hx
   ·exact hr
   ·exact R5 h x hx
  ·rw[if_neg hr]at h;omega
def Found(c:List Bb)(p:Nat):Prop:=
 (∃x,ZG x/\c[p]?=some x)\/(∃x o,∃q∈A5 c,pt x/\c[p]?=some (BJ x o)/\ -32768<=o/\o<=32767/\(q:Int)=(p:Int)+1+o)\/(∃n,c[p]?=some (Bs n)/\c[p+1]?=some (DQ n))
theorem R6{l:List BB}(hW:∀x∈l,KA x)(hbd:B6 (BU l)<=20000):∀p∈A5 (Bh (BU l)),Found (Bh (BU l)) p:=by
 have hU:=RY hW
 have hT:=Xy l
 have hlast:∃R,BU l=R++ [ins D0 0]:=⟨[ins (Bk 11 6 1) 0,ins (BL 8 7 1 8) 0]++CT l 0++A9++ [ins (HE (Kl 0)) 0],by simp[BU,Eg]⟩
 obtain⟨rows,hr⟩:∃rows,BU l=rows:=⟨_,rfl⟩
 rw[hr]at hU hT hlast hbd ⊢
 obtain⟨R,hR⟩:=hlast
 have hst:A5 (Bh rows)=DW rows 0:=by
  unfold A5;have:=KG (rows:=rows) hU [] (Bh rows).length rfl (by unfold Bh;rw[CG];exact Nat.le_refl _);exact this
 have key:∀{suf:List BA},Un suf->∀pre,rows=pre++suf->∀p∈DW suf (B6 pre),Found (Bh rows) p:=by
  intro suf h;induction h with
  |nil=>intro pre _ p hp;simp[DW,II]at hp
  | @lab j s _ ih=>
   intro pre hp p hm;rw[HI]at hm;have e:B6 (pre++ [Go.Cmp.lab (j+1)])=B6 pre:=by rw[Bl,R3];rfl
   exact ih (pre++ [Go.Cmp.lab (j+1)]) (by rw[hp];simp) p (by rw[e];exact hm)
  | @one x s hx _ ih=>
   intro pre hp p hm;rw[Dw 0 _ _ (J0 hx)]at hm;have e:B6 (pre++ [ins x 0])=B6 pre+1:=by rw[Bl,Ej];rfl
   rcases List.mem_cons.1 hm with rfl|hm
   ·have hm:=EP pre s x 0;rw[if_neg (Nat.lt_irrefl 0),←hp]at hm;exact .inl ⟨x,hx,hm⟩
   ·exact ih (pre++ [ins x 0]) (by rw[hp];simp) p (by rw[e];exact hm)
  | @jump x j s hx _ ih=>
   intro pre hp p hm;rw[Dw (j+1) _ _ (LD hx)]at hm;have e:B6 (pre++ [ins x (j+1)])=B6 pre+1:=by rw[Bl,Ej];rfl
   rcases List.mem_cons.1 hm with rfl|hm
   ·have hm:=EP pre s x (j+1);rw[if_pos (Nat.succ_pos j),←hp]at hm;have hto:j+1∈HJ rows:=by rw[hp,D6,Ii];simp
    obtain⟨a,j',b,e1,e2,e3,e4,e5⟩:=Tk hU (hT _ hto);obtain rfl:j=j':=by omega
    have hat:Jw rows (j+1)=B6 a:=by rw[e2];exact Z8 _ _ _ e3
    have hb:0<B6 b:=by
     refine Nat.pos_of_ne_zero λh0=>?_
     have hall:∀y∈Go.Cmp.lab (j+1)::b,B8 y=true:=λy hy=>by
      rcases List.mem_cons.1 hy with rfl|hy
      ·simp[B8,Go.Cmp.lab]
      ·exact R5 h0 y hy
     have h1:rows.getLast?=some (ins D0 0):=by rw[hR];simp
     rw[e2,List.getLast?_append]at h1;obtain⟨z,hz⟩:∃z,(Go.Cmp.lab (j+1)::b).getLast?=some z:=⟨_,List.getLast?_eq_some_getLast (by simp)⟩;rw[hz]at h1;have hz2:z=ins D0 0:=by simpa using h1
     have:=hall z (List.mem_of_getLast? hz);rw[hz2]at this;simp[B8,ins]at this
    obtain⟨l',hl'⟩:=Ox e5 hb (B6 a)
    have hq:B6 a∈A5 (Bh rows):=by
     rw[hst,e2,R4 e4,HI,Nat.zero_add,hl'];simp
    have hcr:B6 a<=B6 rows:=by rw[e2,Bl];omega
    have hcp:B6 pre<=B6 rows:=by rw[hp,Bl];omega
    have hw:HA ((B6 a:Int) - (B6 pre:Nat) - 1)=(B6 a:Int) - (B6 pre:Nat) - 1:=IntWalk.i16_in _ (by omega);rw[hat,gG,hw]at hm;exact .inr (.inl ⟨x,_,B6 a,hq,hx,hm,by omega,by omega,by omega⟩)
   ·exact ih (pre++ [ins x (j+1)]) (by rw[hp];simp) p (by rw[e];exact hm)
  | @two n s _ ih=>
   intro pre hp p hm;rw[IJ]at hm;have e:B6 (pre++ [ins (Bs n) 0,ins (DQ n) 0])=B6 pre+2:=by rw[Bl,Ej,Ej];rfl
   rcases List.mem_cons.1 hm with rfl|hm
   ·have a1:=EP pre (ins (DQ n) 0::s) (Bs n) 0;have a2:=EP (pre++ [ins (Bs n) 0]) s (DQ n) 0;have e0:pre++ [ins (Bs n) 0]++ins (DQ n) 0::s=rows:=by rw[hp];simp
    have e1:B6 (pre++ [ins (Bs n) 0])=B6 pre+1:=by rw[Bl,Ej];rfl
    rw[if_neg (Nat.lt_irrefl 0),←hp]at a1;rw[if_neg (Nat.lt_irrefl 0),e0,e1]at a2;exact .inr (.inr ⟨n,a1,a2⟩)
   ·exact ih (pre++ [ins (Bs n) 0,ins (DQ n) 0]) (by rw[hp];simp) p (by rw[e];exact hm)
 intro p hp
 rw[hst]at hp
 exact key hU [] rfl p hp
theorem Tl{l:List BB}(hW:∀x∈l,KA x):∃init p,A5 (Bh (BU l))=init++ [p]/\(Bh (BU l))[p]?=some D0:=by
 have hU:=RY hW
 obtain⟨R,hR⟩:∃R,R= [ins (Bk 11 6 1) 0,ins (BL 8 7 1 8) 0]++CT l 0++A9:=⟨_,rfl⟩
 have hUR:Un R:=by
  rw[hR];exact(Un.append (.one (.movR (rg 6 (by decide) (by decide)) (rg 1 (by decide) (by decide))) (.one (.load (.inr (.inr (.inr rfl))) (rg 7 (by decide) (by decide)) (rg 1 (by decide) (by decide))) .nil)) (NH l 0 hW)).append GB
 have e:BU l=R++ [ins (HE (Kl 0)) 0]++ [ins D0 0]:=by rw[hR];simp[BU,Eg]
 have hU1:Un (R++ [ins (HE (Kl 0)) 0]):=hUR.append (.one .low .nil)
 have hst:A5 (Bh (BU l))=DW (BU l) 0:=by
  unfold A5;exact KG (rows:=BU l) hU [] (Bh (BU l)).length rfl (by unfold Bh;rw[CG];exact Nat.le_refl _)
 refine⟨DW (R++ [ins (HE (Kl 0)) 0]) 0,B6 (R++ [ins (HE (Kl 0)) 0]),?_,?_⟩
 ·rw[hst,e,R4 hU1,Nat.zero_add,Dw 0 _ _ (J0 .exit)];simp[DW,II]
 ·have:=EP (R++ [ins (HE (Kl 0)) 0]) [] D0 0;rw[if_neg (Nat.lt_irrefl 0),←e]at this;exact this
end Go.Cmp
namespace Go.Proofs.YtgjflcgmieiafaaGreatDoor
open Go Go.DI Go.DI.Kit Go.Proofs Go.Cmp
noncomputable section
structure D7(l:List Bb):Prop where
 pos:l≠ []
 most:l.length<=512
 found:∀p∈A5 l,Go.Cmp.Found l p
 last:∃init p,A5 l=init++ [p]/\l[p]?=some D0
def A6(b:Nat)(n:Nat):Value:= .slice (some ⟨b,0,some 5⟩) n n
def Eu(v:Value):Value:= .agg ⟨[.slice none 0 0,v]⟩
def U5(port:Int):Value:= .agg ⟨[.int .u32 port, .slice none 0 0, .slice none 0 0]⟩
def lC(args:List Value)(x:BH):Prop:=match args with
 | [.agg ⟨[.slice none 0 0, .slice (some ⟨_,0,some 5⟩) n n']⟩]=>∃own l,x= .cells own (AE l)/\n=l.length/\n'=l.length/\D7 l
 |_=>False
def zx(a:List Value):Option Nat:=match a with
 | [.agg ⟨[.slice none 0 0, .slice (some ⟨b,0,some 5⟩) _ _]⟩]=>some b
 |_=>none
def uh(f:FuncId)(args:List Value)(x:BH)(v:Value):Prop:=f=45/\v= .tuple ⟨[.int .i64 0, .int .i64 0]⟩/\zx args=some 1/\lC args x
def wS(i:Nat):Value:= .slice (some ⟨i,0,none⟩) 0 0
def AAC(p c k t mm tm ch:Nat)(n np:Nat)(sp:Option Nat)(port:Int):BH:=
 .cells true (u7 (wS mm) (A6 c n) (wS t) (.slice (some ⟨k,0,sp⟩) np np) (wS tm) (wS ch) port (AR Du) 0 0 false 0)
def zt(p:Nat):Value:= .tuple ⟨[.pointer (some ⟨p,0,none⟩), .int .i64 0]⟩
open Classical in
def fJ:CX:=λf a M=>if f=45/\∃b,zx a=some b/\lC a (M.get b)/\Fits gl [b] [M.get b] M then some (.tuple ⟨[.int .i64 0, .int .i64 0]⟩,M)else none
theorem kA{f:FuncId}(h:f≠45)(a:List Value)(M:Mem):fJ f a M=none:=if_neg λg=>h g.1
theorem lD{a:List Value}{x:BH}(h:lC a x):∃b own l,a= [Eu (A6 b l.length)]/\x= .cells own (AE l)/\D7 l:=by
 unfold lC at h
 split at h
 ·obtain⟨own,l,h1,rfl,rfl,h2⟩:=h;exact⟨_,own,l,rfl,h1,h2⟩
 ·cases h
def E3:Prop:=∀(B0:Nat) (b:Nat) (own:Bool) (l:List Bb) (M:Mem),M.get b= .cells own (AE l)->D7 l->Fits gl [b] [M.get b] M->EJ Tryz.prog B0 1 45 [Eu (A6 b l.length)] M (.tuple ⟨[.int .i64 0, .int .i64 0]⟩) M
theorem cN(hW:E3)(B0:Nat):CU Tryz.prog B0 1 fJ:=by
 refine⟨λf a M v M' h=>?_,λf a M v M' h=>?_,λf a M v M' h=>?_⟩
 all_goals
  unfold fJ at h;split at h
  case isFalse=>cases h
  rename_i hc;obtain⟨rfl,b,h1,h2,hF⟩:=hc;simp only[Option.some.injEq,Prod.mk.injEq]at h;obtain⟨rfl,rfl⟩:=h
 ·exact Nat.le_refl _
 ·obtain⟨b',own,l,rfl,h3,h4⟩:=lD h2;have h1:some b'=some b:=h1;cases h1;exact hW B0 b own l _ h3 h4 hF
 ·exact hasB (by kernel_rfl)
theorem kB:B9 fJ:=λf a M v M' h=>by
 unfold fJ at h
 split at h
 case isFalse=>cases h
 simp only[Option.some.injEq,Prod.mk.injEq]at h
 obtain⟨rfl,rfl⟩:=h
 exact EM.refl _
section
variable{M:Mem}{K:CR}{c k:Nat}{l:List Bb}{pk:List Int}{port:Int}{o1 o2:Bool}
theorem Jq(hne:pk≠ [])(hl:pk.length<=65535):H.apOk (.cells o2 (AH pk)) 0 1 1 pk.length (AH pk):=by
 have hp:0<pk.length:=List.length_pos_iff.2 hne
 refine⟨hp,by omega,by omega,?_,?_,by rw[Hk];omega⟩
 ·show(if 0+pk.length*1<=(AH pk).length then some (((AH pk).drop 0).take (pk.length*1))else none)=_;rw[if_pos (by rw[Hk];omega),List.drop_zero,List.take_of_length_le (by rw[Hk];omega)]
 ·unfold AH;rw[List.all_map,List.all_eq_true];intro x _;rfl
theorem Js(l:List Bb):(AE l).length=l.length*5:=Fy GK l
theorem L9(hne:l≠ [])(hl:l.length<=512):H.apOk (.cells o1 (AE l)) 0 5 12 l.length (AE l):=by
 have hp:0<l.length:=List.length_pos_iff.2 hne
 refine⟨hp,by omega,by omega,?_,?_,Js l⟩
 ·show(if 0+l.length*5<=(AE l).length then some (((AE l).drop 0).take (l.length*5))else none)=_;rw[if_pos (by rw[Js];omega),List.drop_zero,List.take_of_length_le (by rw[Js];omega)]
 ·unfold AE;rw[List.all_flatMap,List.all_eq_true];intro x _;rfl
theorem vZ(hM:M.top)(h0:M.get 0= .cells false gl)(h1:1<=M.size)(hc:c<M.size)(hk:k<M.size)(hc0:c≠0)(hk0:k≠0)(hck:c≠k)(gc:M.get c= .cells o1 (AE l))(gk:M.get k= .cells o2 (AH pk)):Fits gl [c,k] [M.get c,M.get k] M:=by
 refine⟨hM,h0,h1,rfl,λb hb=>?_,?_,?_,λi b s hi hs=>?_,λs hs=>?_⟩
 ·simp only[List.mem_cons,List.not_mem_nil,or_false]at hb;rcases hb with rfl|rfl<;>assumption
 ·simp only[List.mem_cons,List.not_mem_nil,or_false,not_or];exact⟨λh=>hc0 h.symm,λh=>hk0 h.symm⟩
 ·simp[hck]
 ·rcases i with _|_|i
  ·cases hi;cases hs;rw[gc];show _=BH.cells o1 _;rw[CW (BT l)]
  ·cases hi;cases hs;rw[gk];show _=BH.cells o2 _;rw[CW (C3 pk)]
  ·cases hi
 ·have hpl:∀(o:Bool) (c:List Value),c.all EA=true->okB (.cells o c)/\seenB (1+2) (.cells o c):=λo c h=>⟨λv hv=>Ev (List.all_eq_true.1 h v hv),λv hv=>Di (List.all_eq_true.1 h v hv)⟩;simp only[List.mem_cons,List.not_mem_nil,or_false]at hs;rcases hs with rfl|rfl
  ·rw[gc];exact hpl _ _ (BT l)
  ·rw[gk];exact hpl _ _ (C3 pk)
theorem Wi(hM:M.top)(h0:M.get 0= .cells false gl)(h1:1<=M.size)(hc:c<M.size)(hc0:c≠0)(gc:M.get c= .cells o1 (AE l)):Fits gl [c] [M.get c] M:=by
 refine⟨hM,h0,h1,rfl,λb hb=>?_,?_,?_,λi b s hi hs=>?_,λs hs=>?_⟩
 ·obtain rfl:=List.mem_singleton.1 hb;exact hc
 ·simp only[List.mem_cons,List.not_mem_nil,or_false];exact λh=>hc0 h.symm
 ·simp
 ·rcases i with _|i
  ·cases hi;cases hs;rw[gc];show _=BH.cells o1 _;rw[CW (BT l)]
  ·cases hi
 ·obtain rfl:=List.mem_singleton.1 hs;rw[gc];exact⟨λv hv=>Ev (List.all_eq_true.1 (BT l) v hv),λv hv=>Di (List.all_eq_true.1 (BT l) v hv)⟩
end
end
end Go.Proofs.YtgjflcgmieiafaaGreatDoor
namespace Go.Proofs.YtgjflcgmieiafaaGreatDoor
open Go Go.DI Go.DI.Kit Go.Proofs Go.Cmp
noncomputable section
noncomputable def Sm:Code:=AP Tryz.f15
theorem yq:Tryz.prog.funcs[15]?=some Tryz.f15:=by kernel_rfl
theorem yr:Tryz.f15.body=some Sm:=by kernel_rfl
theorem yu:Tryz.f15.ntmps=84:=by kernel_rfl
noncomputable def never:List Value->Mem->Value->Prop:=λ_ _ _=>False
noncomputable def hA(L:List Value)(P:Option (List Value)):H.Hint where
 ix _:=false
 ld _ _ _:=none
 cmp op t:=cond (Nat.beq t 3) (BinOp.rec (motive:=λ_=>Option Bool) none none none none none none none none none none none none none none none (some false) none op) none
 ap t:=cond (Nat.beq t 30) (some L) (cond (Nat.beq t 23) P none)
 call f:=cond (Nat.beq f 45) (some (.tuple ⟨[.int .i64 0, .int .i64 0]⟩)) (cond (Nat.beq f 28) (some (.bool true)) none)
 spec:=uh
 blk:=1
 specM f:=cond (Nat.beq f 28) (some never) (some λargs m v=>fJ f args m=some (v,m))
noncomputable def cH(L:List Value)(P:Option (List Value))(args:List Value)(M:Mem):Option (H.TT (Ex×AF×Mem)):=
 H.codeT (hA L P) (Dl ((items Sm).take 6)) Tryz.prog kp 1 (H.callT (hA L P) Tryz.prog kp 1 20) (λbody _ k t m q=>Y.loopF body k t m q) 84 600 (AB 84 (Bq args)) M λe t m=>some ((e,t,m),[],[])
noncomputable def jz:List Value:= [.int .i64 0, .int .i64 0, .int .u64 0, .int .i64 0, .slice none 0 0]
noncomputable def tM(zi p:Nat)(img pv wld:Value):List (Nat×Value):= [(4, .int .i64 512),(5, .pointer (some ⟨zi,0,none⟩)),(8, .pointer (some ⟨zi+1,0,none⟩)),(10, .pointer (some ⟨zi+2,0,none⟩)),(11, .int .i64 0),(12, .pointer (some ⟨p,0,none⟩)),(13, .int .i64 0),(15,zt p),(16,img),(17, .slice none 0 0),(18,pv),(19,wld),(20,zt p),(21, .pointer (some ⟨p,0,none⟩)),(22, .int .i64 0),(23, .int .i64 0),(24, .bool false),
 (27, .int .i64 512),(28, .bool false),(29, .bool false),(30, .int .i64 512),(31, .bool false),(32, .bool false)]
noncomputable def I2(v:Value):List Value:= [.slice none 0 0,v]
noncomputable def MO(port:Int):List Value:= [.int .u32 port, .slice none 0 0, .slice none 0 0]
noncomputable def Fo(n:Nat)(pv:Value)(port:Int):List Value:= [Eu (A6 1 n), .slice none 0 0,pv,U5 port, .int .i64 512]
noncomputable def O7(o1 o2:Bool)(L P:List Value)(n:Nat):List BH:= [.cells o1 L, .cells o2 P, .cells true (I2 (A6 1 n)),GV, .cells true P]
noncomputable def O8(o1 o2:Bool)(L:List Value)(n:Nat):List BH:= [.cells o1 L, .cells o2 [], .cells true (I2 (A6 1 n)),GV]
noncomputable def O9(o1:Bool)(L:List Value)(n:Nat):List BH:= [.cells o1 L, .cells true (I2 (A6 1 n)),GV]
noncomputable def qc(L P:List Value)(n np:Nat)(port:Int)(z:Nat)(regs:List Value)(at_ st:Int)(over:Bool):List BH:= [.cells true (I2 (A6 1 n)), .cells true (MO port), .cells true jz,
 .cells true (I2 (A6 1 n)), .cells true (MO port),GV,GV, .cells true P,FN (z+9) (z+11) (z+5) (z+7) (z+12) (z+13) n np (some 1) port regs at_ st over,GV,GV, .cells true L,GV,GV]
noncomputable def Y8(L:List Value)(n:Nat)(port:Int)(z:Nat)(regs:List Value)(at_ st:Int)(over:Bool):List BH:= [.cells true (I2 (A6 1 n)), .cells true (MO port), .cells true jz,
 .cells true (I2 (A6 1 n)), .cells true (MO port),GV,GV,FN (z+8) (z+10) (z+5) (z+6) (z+11) (z+12) n 0 none port regs at_ st over,GV,GV, .cells true L,GV,GV]
noncomputable def yw{A:Type}(r:Option (H.TT A)):Option (A×List Prop):=r.map λx=>(x.1,x.2.2)
abbrev zu{A:Type}(r:Option (H.TT A)):Prop:=(r.map λx=>x.2.1.map Prod.fst)=(r.map λx=>x.2.1.map Prod.snd)
abbrev Rn{A:Type}(r:Option (H.TT A))(y:A×List Prop):Prop:=yw r=some y/\(r.map λx=>x.2.1.map Prod.fst)=(r.map λx=>x.2.1.map Prod.snd)
noncomputable def cJ:Prop:=BY Tryz.prog kp .gtr 3 (.int .i64 512) (.int .i64 1048576)=some (.bool false)
noncomputable def ui(n:Nat):Prop:=BY Tryz.prog kp .gtr 3 (.int .i64 (Int.ofNat n)) (.int .i64 65535)=some (.bool false)
noncomputable def uj(n:Nat)(port:Int)(ss:List BH):Prop:=fJ 45 [Eu (A6 1 n)] (mS gl (ss++ [.cells true (I2 (A6 1 n)), .cells true (MO port), .cells true jz, .cells true (I2 (A6 1 n)), .cells true (MO port)]))=some (.tuple ⟨[.int .i64 0, .int .i64 0]⟩,mS gl (ss++ [.cells true (I2 (A6 1 n)), .cells true (MO port), .cells true jz, .cells true (I2 (A6 1 n)), .cells true (MO port)]))
noncomputable def Gu(b n:Nat)(sp:Option Nat):Value:= .slice (some ⟨b,0,sp⟩) n n
theorem qd(o1 o2:Bool)(L P:List Value)(n np:Nat)(port:Int):
  Rn (cH L (some P) (Fo n (Gu 5 np (some 1)) port) (mS gl (O7 o1 o2 L P n))) ((.normal,AB 84 (up (Bq (Fo n (Gu 5 np (some 1)) port)) (tM 6 14 (Eu (A6 1 n)) (Gu 5 np (some 1)) (U5 port))),mS gl (O7 o1 o2 L P n++qc L P n np port 6 (AR Du) 0 0 false)),
    [uj n port (O7 o1 o2 L P n),ui np,H.apOk (.cells true P) 0 1 1 np P,H.apOk (.cells o1 L) 0 5 12 n L,cJ]):=⟨by kernel_rfl,by kernel_rfl⟩
theorem qe(o1 o2:Bool)(L:List Value)(n:Nat)(port:Int):
  Rn (cH L none (Fo n (Gu 4 0 none) port) (mS gl (O8 o1 o2 L n))) ((.normal,AB 84 (up (Bq (Fo n (Gu 4 0 none) port)) (tM 5 12 (Eu (A6 1 n)) (Gu 4 0 none) (U5 port))),mS gl (O8 o1 o2 L n++Y8 L n port 5 (AR Du) 0 0 false)),
    [uj n port (O8 o1 o2 L n),ui 0,H.apOk (.cells o1 L) 0 5 12 n L,cJ]):=⟨by kernel_rfl,by kernel_rfl⟩
theorem qf(o1:Bool)(L:List Value)(n:Nat)(port:Int):
  Rn (cH L none (Fo n (Gu 3 0 none) port) (mS gl (O9 o1 L n))) ((.normal,AB 84 (up (Bq (Fo n (Gu 3 0 none) port)) (tM 4 11 (Eu (A6 1 n)) (Gu 3 0 none) (U5 port))),mS gl (O9 o1 L n++Y8 L n port 4 (AR Du) 0 0 false)),
    [uj n port (O9 o1 L n),ui 0,H.apOk (.cells o1 L) 0 5 12 n L,cJ]):=⟨by kernel_rfl,by kernel_rfl⟩
noncomputable def nR(gt:Bool)(o' c':Nat)(sp:Option Nat)(z:Nat)(B:Nat->Int):H.Hint where
 ix _:=false
 ld _ t off:=cond (Nat.beq t 5) (some (.int .u8 (B off))) none
 cmp op t:=cond (Nat.beq t 3) (BinOp.rec (motive:=λ_=>Option Bool) none none none none none none none none none none none none none none none (some gt) none op) none
 ap _:=none
 call _:=none
 spec _ _ _ _:=False
 blk:=0
 sl t:=cond (Nat.beq t 23) (some (.slice (some ⟨1,o',sp⟩) z c')) none
noncomputable def wT(r:Int):Int:=IntKind.wrap .u64 (r*2 ^ (min (8:Int).toNat (IntKind.bits .u64)))
noncomputable def rr(a b:Int):Int:=IntKind.wrap .u64 ((BitVec.ofInt (IntKind.bits .u64) a|||BitVec.ofInt (IntKind.bits .u64) b).toNat:Nat)
noncomputable def Yg(l:List Int):Int:=l.foldl (λr b=>rr (wT r) (IntKind.wrap .u64 b)) 0
noncomputable def Yh(gt:Bool)(o' c':Nat)(sp:Option Nat)(z:Nat)(B:Nat->Int)(own:Bool)(P:List Value)(pv:Value)(off:Int):Option (H.TT (Value×BH×BH)):=
 H.callT (nR gt o' c' sp z B) Tryz.prog kp 1 20 63 [pv, .int .i64 off, .int .i64 (Int.ofNat z)] (mS gl [.cells own P]) λv m=>some ((v,m.get 0,m.get 1),[],[])
noncomputable def IA(np cap:Nat)(sp:Option Nat):Value:= .slice (some ⟨1,0,sp⟩) np cap
noncomputable def fK(off:Int)(z np:Nat)(b:Bool):Prop:=BY Tryz.prog kp .gtr 3 (.int .i64 (IntKind.wrap .i64 (Int.add off (Int.ofNat z)))) (.int .i64 (Int.ofNat np))=some (.bool b)
noncomputable def tV(off:Int)(z np cap:Nat)(sp:Option Nat)(o' c':Nat):Prop:=J5 Tryz.prog 23 (IA np cap sp) (some (.int .i64 off)) (some (.int .i64 (IntKind.wrap .i64 (Int.add off (Int.ofNat z))))) none=some (.slice (some ⟨1,o',sp⟩) z c')
noncomputable def TS(P:List Value)(o' i:Nat)(B:Nat->Int):Prop:=H.ldOk (.cells true P) (Nat.add o' (Nat.mul i 1)) false 1 (.int .u8 (B (Nat.add o' (Nat.mul i 1))))
noncomputable def bN(o':Nat)(B:Nat->Int)(i:Nat):Int:=B (Nat.add o' (Nat.mul i 1))
theorem ru(own:Bool)(P:List Value)(np cap:Nat)(sp:Option Nat)(off:Int)(o' c':Nat)(B:Nat->Int):Rn (Yh false o' c' sp 1 B own P (IA np cap sp) off) ((.tuple ⟨[.int .u64 (Yg [bN o' B 0]), .bool true]⟩, .cells false gl, .cells own P),[fK off 1 np false,tV off 1 np cap sp o' c',TS P o' 0 B]):=⟨by kernel_rfl,by kernel_rfl⟩
theorem ry(own:Bool)(P:List Value)(np cap:Nat)(sp:Option Nat)(off:Int)(o' c':Nat)(B:Nat->Int):Rn (Yh false o' c' sp 2 B own P (IA np cap sp) off) ((.tuple ⟨[.int .u64 (Yg [bN o' B 0,bN o' B 1]), .bool true]⟩, .cells false gl, .cells own P),[fK off 2 np false,tV off 2 np cap sp o' c',TS P o' 0 B,TS P o' 1 B]):=⟨by kernel_rfl,by kernel_rfl⟩
theorem rz(own:Bool)(P:List Value)(np cap:Nat)(sp:Option Nat)(off:Int)(o' c':Nat)(B:Nat->Int):Rn (Yh false o' c' sp 4 B own P (IA np cap sp) off) ((.tuple ⟨[.int .u64 (Yg [bN o' B 0,bN o' B 1,bN o' B 2,bN o' B 3]), .bool true]⟩, .cells false gl, .cells own P),[fK off 4 np false,tV off 4 np cap sp o' c',TS P o' 0 B,TS P o' 1 B,TS P o' 2 B,TS P o' 3 B]):=⟨by kernel_rfl,by kernel_rfl⟩
theorem sA(own:Bool)(P:List Value)(np cap:Nat)(sp:Option Nat)(off:Int)(o' c':Nat)(B:Nat->Int):Rn (Yh false o' c' sp 8 B own P (IA np cap sp) off) ((.tuple ⟨[.int .u64 (Yg [bN o' B 0,bN o' B 1,bN o' B 2,bN o' B 3,bN o' B 4,bN o' B 5,bN o' B 6,bN o' B 7]), .bool true]⟩, .cells false gl, .cells own P),[fK off 8 np false,tV off 8 np cap sp o' c',TS P o' 0 B,TS P o' 1 B,TS P o' 2 B,TS P o' 3 B,TS P o' 4 B,TS P o' 5 B,TS P o' 6 B,TS P o' 7 B]):=⟨by kernel_rfl,by kernel_rfl⟩
end
end Go.Proofs.YtgjflcgmieiafaaGreatDoor
namespace Go.DI
namespace Kit
noncomputable section
def GQ:Value->Bool
 | .int _ _=>true
 | .bool _=>true
 |_=>false
def Nr:Value->Bool
 | .int _ _=>true
 | .bool _=>true
 | .agg ⟨l⟩=>l.all GQ
 |_=>false
def Jd:Value->Bool
 | .int _ _=>true
 | .bool _=>true
 | .agg ⟨l⟩=>l.all GQ
 | .tuple ⟨l⟩=>l.all Nr
 |_=>false
theorem SP{v:Value}(h:GQ v=true):Free v:=by cases v<;>simp[GQ]at h<;>first|exact CH _ _|exact Dn _
theorem EF{l:List Value}(h:l.all GQ=true):Free (.agg ⟨l⟩):=λι κ v' g=>by
 cases g with
 |agg _ a' hs hr=>
  refine .agg _ _ hs λi x y hx hy=>SP (List.all_eq_true.1 h x ?_) ι κ y (hr i x y hx hy);exact Array.mem_toList_iff.2 (Array.mem_of_getElem? hx)
theorem SQ{v:Value}(h:Nr v=true):Free v:=by
 cases v<;>simp only[Nr]at h<;>try (cases h;done)
 ·exact Dn _
 ·exact CH _ _
 ·exact EF h
theorem SR{v:Value}(h:Jd v=true):Free v:=by
 cases v<;>simp only[Jd]at h<;>try (cases h;done)
 ·exact Dn _
 ·exact CH _ _
 ·exact EF h
 ·exact FF λx hx=>SQ (List.all_eq_true.1 h x hx)
section
variable{P:Program}{gl:List Value}
open Classical in
def G8(gl:List Value)(F:FuncId)(R:FuncId->List Value->Mem->Option (Value×Mem))(op:List Value->Option (List Value×List Nat)):CX:=λf a M=>if f=F then(match op a with
 |some (sa,bs)=>if Fits gl bs (bs.map M.get) M/\HQ (DH bs M) (λi=>Nat.blt i (1+bs.length)) sa a then
   (match R F sa (mS gl (bs.map M.get))with
    |some (v,m)=>if Jd v=true/\m.get 0= .cells false gl/\∀i s,(bs.map M.get)[i]?=some s->m.get (i+1)=s then some (v,M)else none
    |none=>none)else none
 |none=>none)else none
variable{F:FuncId}{R:FuncId->List Value->Mem->Option (Value×Mem)}{op:List Value->Option (List Value×List Nat)}
theorem Cy{f:FuncId}(h:f≠F)(a:List Value)(M:Mem):G8 gl F R op f a M=none:=if_neg h
theorem Je(hgl:∀x∈gl,Free x){B0:Nat}(hR:CU P B0 1 R)(hRg:B9 R){f:FuncId}{a:List Value}{M M':Mem}{v:Value}(h:G8 gl F R op f a M=some (v,M')):f=F/\EJ P B0 1 f a M v M'/\EM M M'/\∃sa m m',R F sa m=some (v,m'):=by
 unfold G8 at h
 split at h
 case isFalse=>cases h
 rename_i e
 subst e
 split at h
 case h_2=>cases h
 rename_i sa bs hop
 split at h
 case isFalse=>cases h
 rename_i hF
 split at h
 case h_2=>cases h
 rename_i v0 m hr
 split at h
 case isFalse=>cases h
 rename_i hk
 simp only[Option.some.injEq,Prod.mk.injEq]at h
 obtain⟨rfl,rfl⟩:=h
 obtain⟨h1,h2⟩:=N4 hgl hR hRg hF.1 hr hF.2 ((SR hk.1).embA _ _) hk.2.1 hk.2.2
 exact⟨rfl,h1,h2,sa,_,m,hr⟩
theorem E9(hgl:∀x∈gl,Free x)(hR:∀B0,CU P B0 1 R)(hRg:B9 R):B9 (G8 gl F R op):=λf a M v M' h=>(Je hgl (hR 0) hRg h).2.2.1
theorem GR(hgl:∀x∈gl,Free x)(hR:∀B0,CU P B0 1 R)(hRg:B9 R)(B0:Nat):CU P B0 1 (G8 gl F R op):=
 ⟨λf a M v M' h=>(E9 hgl hR hRg f a M v M' h).size,λf a M v M' h=>(Je hgl (hR B0) hRg h).2.1,λf a M v M' h=>by
  obtain⟨rfl,_,_,sa,m,m',hr⟩:=Je hgl (hR B0) hRg h;exact(hR B0).body _ _ _ _ _ hr⟩
theorem EN{a sa:List Value}{bs:List Nat}{M m:Mem}{v:Value}(hop:op a=some (sa,bs))(hF:Fits gl bs (bs.map M.get) M)(hs:HQ (DH bs M) (λi=>Nat.blt i (1+bs.length)) sa a)
  (hr:R F sa (mS gl (bs.map M.get))=some (v,m)) (hv:Jd v=true) (h0:m.get 0= .cells false gl) (hm:∀i s,(bs.map M.get)[i]?=some s->m.get (i+1)=s):G8 gl F R op F a M=some (v,M):=by
 unfold G8
 rw[if_pos rfl,hop]
 simp only
 rw[if_pos ⟨hF,hs⟩,hr]
 exact if_pos ⟨hv,h0,hm⟩
def ML(o o':CX):CX:=λf a M=>match o f a M with
 |some r=>some r
 |none=>o' f a M
theorem KU{o o':CX}(h:B9 o)(h':B9 o'):B9 (ML o o'):=λf a M v M' g=>by
 unfold ML at g
 cases hq:o f a M with
 |some r=>rw[hq]at g;cases g;exact h _ _ _ _ _ hq
 |none=>rw[hq]at g;exact h' _ _ _ _ _ g
theorem Mc{o o':CX}{B0:Nat}(h:CU P B0 1 o)(h':CU P B0 1 o'):CU P B0 1 (ML o o'):=by
 refine⟨λf a M v M' g=>?_,λf a M v M' g=>?_,λf a M v M' g=>?_⟩
 all_goals
  unfold ML at g;cases hq:o f a M with
  |some r=>rw[hq]at g;cases g;first|exact h.size _ _ _ _ _ hq|exact h.ok _ _ _ _ _ hq|exact h.body _ _ _ _ _ hq
  |none=>rw[hq]at g;first|exact h'.size _ _ _ _ _ g|exact h'.ok _ _ _ _ _ g|exact h'.body _ _ _ _ _ g
theorem Ns{o o':CX}{f:FuncId}{a:List Value}{M:Mem}{r:Value×Mem}(h:o f a M=some r):ML o o' f a M=some r:=by unfold ML;rw[h]
theorem Gt{o o':CX}{f:FuncId}{a:List Value}{M:Mem}(h:o f a M=none):ML o o' f a M=o' f a M:=by unfold ML;rw[h]
def Fm:CX:=λ_ _ _=>none
theorem SS(B0:Nat):CU P B0 1 Fm:=⟨λ_ _ _ _ _ h=>(by cases h),λ_ _ _ _ _ h=>(by cases h),λ_ _ _ _ _ h=>(by cases h)⟩
theorem JA:B9 Fm:=λ_ _ _ _ _ h=>by cases h
end
end
end Kit
end Go.DI
namespace Go.Proofs.YtgjflcgmieiafaaGreatDoor
open Go Go.DI Go.DI.Kit Go.Proofs Go.Cmp
noncomputable section
noncomputable def Bn(x:Int):Prop:=BY Tryz.prog kp .gtr 5 (.int .u8 x) (.int .u8 10)=some (.bool false)
noncomputable def Dd(x:Int):Prop:=BY Tryz.prog kp .eql 5 (.int .u8 x) (.int .u8 10)=some (.bool false)
noncomputable def hO(x y:List Value):H.Hint where
 ix t:=Nat.beq t 30
 ld _ _ _:=none
 cmp op t:=cond (Nat.beq t 5) (BinOp.rec (motive:=λ_=>Option Bool) none none none none none none none none none none none none none none none (some false) none op) none
 ap _:=none
 call _:=none
 spec _ _ _ _:=False
 blk:=0
 cmpY op t v:=cond (Nat.beq t 5) (BinOp.rec (motive:=λ_=>Option Bool) none none none none none none none none none none none (match v with| .int _ n=>cond (Nat.beq n.toNat 10) (some false) none|_=>none) none none none none none op) none
 ldA a t:=cond (Nat.beq t 110) (match a with| .tmp 13=>some (.agg ⟨x⟩)| .tmp 40=>some (.agg ⟨y⟩)|_=>none) none
 cmpO op t a:=cond (Nat.beq t 3) (BinOp.rec (motive:=λ_=>Option Bool) none none none none none none none none none none none (match a with| .tmp 33=>some false|_=>none) none none none none none op) none
noncomputable def Gx(f:FuncId)(x:List Value):Option (H.TT (Value×BH)):=H.callT (hO [] []) Tryz.prog kp 1 20 f [.agg ⟨x⟩] (mS gl []) λv m=>some ((v,m.get 0),[],[])
noncomputable def OW(own:Bool)(L x y:List Value)(k:Nat)(p:Int):Option (H.TT (Value×BH×BH)):=H.callT (hO x y) Tryz.prog kp 1 20 68 [Eu (A6 1 k), .int .i64 p] (mS gl [.cells own L]) λv m=>some ((v,m.get 0,m.get 1),[],[])
noncomputable def I3(p:Int)(k:Nat):Prop:=0<=p/\p< (k:Int)
noncomputable def Jm(L:List Value)(p:Int)(x:List Value):Prop:=H.ldOk (.cells true L) (Nat.add 0 (Nat.mul p.toNat 5)) true 5 (.agg ⟨x⟩)
noncomputable def wA(p:Int)(k:Nat):Prop:=BY Tryz.prog kp .eql 3 (.int .i64 (IntKind.wrap .i64 (Int.add p 1))) (.int .i64 (Int.ofNat k))=some (.bool false)
theorem l9(d n:Int):Rn (Gx 47 [.int .u8 183, .int .u8 d, .int .u8 0, .int .i16 0, .int .i32 n]) ((.tuple ⟨[.agg ⟨[.int .i64 1, .int .i64 11, .int .i64 0, .bool true, .bool false]⟩, .int .i64 0]⟩, .cells false gl),[Bn d,Dd d]):=⟨by kernel_rfl,by kernel_rfl⟩
theorem la(d n:Int):Rn (Gx 48 [.int .u8 183, .int .u8 d, .int .u8 0, .int .i16 0, .int .i32 n]) ((.int .i64 1, .cells false gl),[Bn d,Dd d]):=⟨by kernel_rfl,by kernel_rfl⟩
theorem lh(d n:Int)(own:Bool)(L:List Value)(k:Nat)(p:Int):Rn (OW own L [.int .u8 183, .int .u8 d, .int .u8 0, .int .i16 0, .int .i32 n] [] k p) ((.tuple ⟨[.agg ⟨[.int .i64 1, .int .i64 11, .int .i64 0, .bool true, .bool false]⟩, .int .i64 0]⟩, .cells false gl, .cells own L),I3 p k::Jm L p [.int .u8 183, .int .u8 d, .int .u8 0, .int .i16 0, .int .i32 n]:: [Bn d,Dd d]):=⟨by kernel_rfl,by kernel_rfl⟩
theorem lj(d n:Int):Rn (Gx 47 [.int .u8 87, .int .u8 d, .int .u8 0, .int .i16 0, .int .i32 n]) ((.tuple ⟨[.agg ⟨[.int .i64 1, .int .i64 5, .int .i64 0, .bool true, .bool false]⟩, .int .i64 0]⟩, .cells false gl),[Bn d,Dd d]):=⟨by kernel_rfl,by kernel_rfl⟩
theorem lk(d n:Int):Rn (Gx 48 [.int .u8 87, .int .u8 d, .int .u8 0, .int .i16 0, .int .i32 n]) ((.int .i64 1, .cells false gl),[Bn d,Dd d]):=⟨by kernel_rfl,by kernel_rfl⟩
theorem ll(d n:Int)(own:Bool)(L:List Value)(k:Nat)(p:Int):Rn (OW own L [.int .u8 87, .int .u8 d, .int .u8 0, .int .i16 0, .int .i32 n] [] k p) ((.tuple ⟨[.agg ⟨[.int .i64 1, .int .i64 5, .int .i64 0, .bool true, .bool false]⟩, .int .i64 0]⟩, .cells false gl, .cells own L),I3 p k::Jm L p [.int .u8 87, .int .u8 d, .int .u8 0, .int .i16 0, .int .i32 n]:: [Bn d,Dd d]):=⟨by kernel_rfl,by kernel_rfl⟩
theorem lq(d s:Int):Rn (Gx 47 [.int .u8 191, .int .u8 d, .int .u8 s, .int .i16 0, .int .i32 0]) ((.tuple ⟨[.agg ⟨[.int .i64 1, .int .i64 11, .int .i64 0, .bool true, .bool true]⟩, .int .i64 0]⟩, .cells false gl),[Bn d,Dd d,Bn s]):=⟨by kernel_rfl,by kernel_rfl⟩
theorem lr(d s:Int):Rn (Gx 48 [.int .u8 191, .int .u8 d, .int .u8 s, .int .i16 0, .int .i32 0]) ((.int .i64 1, .cells false gl),[Bn d,Dd d,Bn s]):=⟨by kernel_rfl,by kernel_rfl⟩
theorem lu(d s:Int)(own:Bool)(L:List Value)(k:Nat)(p:Int):Rn (OW own L [.int .u8 191, .int .u8 d, .int .u8 s, .int .i16 0, .int .i32 0] [] k p) ((.tuple ⟨[.agg ⟨[.int .i64 1, .int .i64 11, .int .i64 0, .bool true, .bool true]⟩, .int .i64 0]⟩, .cells false gl, .cells own L),I3 p k::Jm L p [.int .u8 191, .int .u8 d, .int .u8 s, .int .i16 0, .int .i32 0]:: [Bn d,Dd d,Bn s]):=⟨by kernel_rfl,by kernel_rfl⟩
theorem ly(d s:Int):Rn (Gx 47 [.int .u8 95, .int .u8 d, .int .u8 s, .int .i16 0, .int .i32 0]) ((.tuple ⟨[.agg ⟨[.int .i64 1, .int .i64 5, .int .i64 0, .bool true, .bool true]⟩, .int .i64 0]⟩, .cells false gl),[Bn d,Dd d,Bn s]):=⟨by kernel_rfl,by kernel_rfl⟩
theorem mB(d s:Int):Rn (Gx 48 [.int .u8 95, .int .u8 d, .int .u8 s, .int .i16 0, .int .i32 0]) ((.int .i64 1, .cells false gl),[Bn d,Dd d,Bn s]):=⟨by kernel_rfl,by kernel_rfl⟩
theorem mC(d s:Int)(own:Bool)(L:List Value)(k:Nat)(p:Int):Rn (OW own L [.int .u8 95, .int .u8 d, .int .u8 s, .int .i16 0, .int .i32 0] [] k p) ((.tuple ⟨[.agg ⟨[.int .i64 1, .int .i64 5, .int .i64 0, .bool true, .bool true]⟩, .int .i64 0]⟩, .cells false gl, .cells own L),I3 p k::Jm L p [.int .u8 95, .int .u8 d, .int .u8 s, .int .i16 0, .int .i32 0]:: [Bn d,Dd d,Bn s]):=⟨by kernel_rfl,by kernel_rfl⟩
theorem s3(n:Int):Rn (Gx 47 [.int .u8 180, .int .u8 0, .int .u8 0, .int .i16 0, .int .i32 n]) ((.tuple ⟨[.agg ⟨[.int .i64 1, .int .i64 11, .int .i64 0, .bool false, .bool false]⟩, .int .i64 0]⟩, .cells false gl),[Bn 0,Dd 0]):=⟨by kernel_rfl,by kernel_rfl⟩
theorem s4(n:Int):Rn (Gx 48 [.int .u8 180, .int .u8 0, .int .u8 0, .int .i16 0, .int .i32 n]) ((.int .i64 1, .cells false gl),[Bn 0,Dd 0]):=⟨by kernel_rfl,by kernel_rfl⟩
theorem s5(n:Int)(own:Bool)(L:List Value)(k:Nat)(p:Int):Rn (OW own L [.int .u8 180, .int .u8 0, .int .u8 0, .int .i16 0, .int .i32 n] [] k p) ((.tuple ⟨[.agg ⟨[.int .i64 1, .int .i64 11, .int .i64 0, .bool false, .bool false]⟩, .int .i64 0]⟩, .cells false gl, .cells own L),I3 p k::Jm L p [.int .u8 180, .int .u8 0, .int .u8 0, .int .i16 0, .int .i32 n]:: [Bn 0,Dd 0]):=⟨by kernel_rfl,by kernel_rfl⟩
theorem mD:Rn (Gx 47 [.int .u8 149, .int .u8 0, .int .u8 0, .int .i16 0, .int .i32 0]) ((.tuple ⟨[.agg ⟨[.int .i64 9, .int .i64 0, .int .i64 0, .bool false, .bool false]⟩, .int .i64 0]⟩, .cells false gl),[]):=⟨by kernel_rfl,by kernel_rfl⟩
theorem mE:Rn (Gx 48 [.int .u8 149, .int .u8 0, .int .u8 0, .int .i16 0, .int .i32 0]) ((.int .i64 1, .cells false gl),[]):=⟨by kernel_rfl,by kernel_rfl⟩
theorem mF(own:Bool)(L:List Value)(k:Nat)(p:Int):Rn (OW own L [.int .u8 149, .int .u8 0, .int .u8 0, .int .i16 0, .int .i32 0] [] k p) ((.tuple ⟨[.agg ⟨[.int .i64 9, .int .i64 0, .int .i64 0, .bool false, .bool false]⟩, .int .i64 0]⟩, .cells false gl, .cells own L),I3 p k::Jm L p [.int .u8 149, .int .u8 0, .int .u8 0, .int .i16 0, .int .i32 0]:: []):=⟨by kernel_rfl,by kernel_rfl⟩
theorem eB(d s o:Int):Rn (Gx 47 [.int .u8 113, .int .u8 d, .int .u8 s, .int .i16 o, .int .i32 0]) ((.tuple ⟨[.agg ⟨[.int .i64 3, .int .i64 0, .int .i64 1, .bool false, .bool false]⟩, .int .i64 0]⟩, .cells false gl),[Bn d,Dd d,Bn s]):=⟨by kernel_rfl,by kernel_rfl⟩
theorem eC(d s o:Int):Rn (Gx 48 [.int .u8 113, .int .u8 d, .int .u8 s, .int .i16 o, .int .i32 0]) ((.int .i64 1, .cells false gl),[Bn d,Dd d,Bn s]):=⟨by kernel_rfl,by kernel_rfl⟩
theorem eD(d s o:Int)(own:Bool)(L:List Value)(k:Nat)(p:Int):Rn (OW own L [.int .u8 113, .int .u8 d, .int .u8 s, .int .i16 o, .int .i32 0] [] k p) ((.tuple ⟨[.agg ⟨[.int .i64 3, .int .i64 0, .int .i64 1, .bool false, .bool false]⟩, .int .i64 0]⟩, .cells false gl, .cells own L),I3 p k::Jm L p [.int .u8 113, .int .u8 d, .int .u8 s, .int .i16 o, .int .i32 0]:: [Bn d,Dd d,Bn s]):=⟨by kernel_rfl,by kernel_rfl⟩
theorem eE(d s o:Int):Rn (Gx 47 [.int .u8 105, .int .u8 d, .int .u8 s, .int .i16 o, .int .i32 0]) ((.tuple ⟨[.agg ⟨[.int .i64 3, .int .i64 0, .int .i64 2, .bool false, .bool false]⟩, .int .i64 0]⟩, .cells false gl),[Bn d,Dd d,Bn s]):=⟨by kernel_rfl,by kernel_rfl⟩
theorem eF(d s o:Int):Rn (Gx 48 [.int .u8 105, .int .u8 d, .int .u8 s, .int .i16 o, .int .i32 0]) ((.int .i64 1, .cells false gl),[Bn d,Dd d,Bn s]):=⟨by kernel_rfl,by kernel_rfl⟩
theorem eG(d s o:Int)(own:Bool)(L:List Value)(k:Nat)(p:Int):Rn (OW own L [.int .u8 105, .int .u8 d, .int .u8 s, .int .i16 o, .int .i32 0] [] k p) ((.tuple ⟨[.agg ⟨[.int .i64 3, .int .i64 0, .int .i64 2, .bool false, .bool false]⟩, .int .i64 0]⟩, .cells false gl, .cells own L),I3 p k::Jm L p [.int .u8 105, .int .u8 d, .int .u8 s, .int .i16 o, .int .i32 0]:: [Bn d,Dd d,Bn s]):=⟨by kernel_rfl,by kernel_rfl⟩
theorem eI(d s o:Int):Rn (Gx 47 [.int .u8 97, .int .u8 d, .int .u8 s, .int .i16 o, .int .i32 0]) ((.tuple ⟨[.agg ⟨[.int .i64 3, .int .i64 0, .int .i64 4, .bool false, .bool false]⟩, .int .i64 0]⟩, .cells false gl),[Bn d,Dd d,Bn s]):=⟨by kernel_rfl,by kernel_rfl⟩
theorem eJ(d s o:Int):Rn (Gx 48 [.int .u8 97, .int .u8 d, .int .u8 s, .int .i16 o, .int .i32 0]) ((.int .i64 1, .cells false gl),[Bn d,Dd d,Bn s]):=⟨by kernel_rfl,by kernel_rfl⟩
theorem eK(d s o:Int)(own:Bool)(L:List Value)(k:Nat)(p:Int):Rn (OW own L [.int .u8 97, .int .u8 d, .int .u8 s, .int .i16 o, .int .i32 0] [] k p) ((.tuple ⟨[.agg ⟨[.int .i64 3, .int .i64 0, .int .i64 4, .bool false, .bool false]⟩, .int .i64 0]⟩, .cells false gl, .cells own L),I3 p k::Jm L p [.int .u8 97, .int .u8 d, .int .u8 s, .int .i16 o, .int .i32 0]:: [Bn d,Dd d,Bn s]):=⟨by kernel_rfl,by kernel_rfl⟩
theorem eL(d s o:Int):Rn (Gx 47 [.int .u8 121, .int .u8 d, .int .u8 s, .int .i16 o, .int .i32 0]) ((.tuple ⟨[.agg ⟨[.int .i64 3, .int .i64 0, .int .i64 8, .bool false, .bool false]⟩, .int .i64 0]⟩, .cells false gl),[Bn d,Dd d,Bn s]):=⟨by kernel_rfl,by kernel_rfl⟩
theorem eM(d s o:Int):Rn (Gx 48 [.int .u8 121, .int .u8 d, .int .u8 s, .int .i16 o, .int .i32 0]) ((.int .i64 1, .cells false gl),[Bn d,Dd d,Bn s]):=⟨by kernel_rfl,by kernel_rfl⟩
theorem eN(d s o:Int)(own:Bool)(L:List Value)(k:Nat)(p:Int):Rn (OW own L [.int .u8 121, .int .u8 d, .int .u8 s, .int .i16 o, .int .i32 0] [] k p) ((.tuple ⟨[.agg ⟨[.int .i64 3, .int .i64 0, .int .i64 8, .bool false, .bool false]⟩, .int .i64 0]⟩, .cells false gl, .cells own L),I3 p k::Jm L p [.int .u8 121, .int .u8 d, .int .u8 s, .int .i16 o, .int .i32 0]:: [Bn d,Dd d,Bn s]):=⟨by kernel_rfl,by kernel_rfl⟩
theorem eO:Rn (Gx 47 [.int .u8 215, .int .u8 2, .int .u8 0, .int .i16 0, .int .i32 16]) ((.tuple ⟨[.agg ⟨[.int .i64 2, .int .i64 0, .int .i64 2, .bool false, .bool false]⟩, .int .i64 0]⟩, .cells false gl),[Bn 2,Dd 2]):=⟨by kernel_rfl,by kernel_rfl⟩
theorem eP:Rn (Gx 48 [.int .u8 215, .int .u8 2, .int .u8 0, .int .i16 0, .int .i32 16]) ((.int .i64 1, .cells false gl),[Bn 2,Dd 2]):=⟨by kernel_rfl,by kernel_rfl⟩
theorem eQ(own:Bool)(L:List Value)(k:Nat)(p:Int):Rn (OW own L [.int .u8 215, .int .u8 2, .int .u8 0, .int .i16 0, .int .i32 16] [] k p) ((.tuple ⟨[.agg ⟨[.int .i64 2, .int .i64 0, .int .i64 2, .bool false, .bool false]⟩, .int .i64 0]⟩, .cells false gl, .cells own L),I3 p k::Jm L p [.int .u8 215, .int .u8 2, .int .u8 0, .int .i16 0, .int .i32 16]:: [Bn 2,Dd 2]):=⟨by kernel_rfl,by kernel_rfl⟩
theorem eR:Rn (Gx 47 [.int .u8 215, .int .u8 2, .int .u8 0, .int .i16 0, .int .i32 32]) ((.tuple ⟨[.agg ⟨[.int .i64 2, .int .i64 0, .int .i64 4, .bool false, .bool false]⟩, .int .i64 0]⟩, .cells false gl),[Bn 2,Dd 2]):=⟨by kernel_rfl,by kernel_rfl⟩
theorem eS:Rn (Gx 48 [.int .u8 215, .int .u8 2, .int .u8 0, .int .i16 0, .int .i32 32]) ((.int .i64 1, .cells false gl),[Bn 2,Dd 2]):=⟨by kernel_rfl,by kernel_rfl⟩
theorem eT(own:Bool)(L:List Value)(k:Nat)(p:Int):Rn (OW own L [.int .u8 215, .int .u8 2, .int .u8 0, .int .i16 0, .int .i32 32] [] k p) ((.tuple ⟨[.agg ⟨[.int .i64 2, .int .i64 0, .int .i64 4, .bool false, .bool false]⟩, .int .i64 0]⟩, .cells false gl, .cells own L),I3 p k::Jm L p [.int .u8 215, .int .u8 2, .int .u8 0, .int .i16 0, .int .i32 32]:: [Bn 2,Dd 2]):=⟨by kernel_rfl,by kernel_rfl⟩
theorem eU:Rn (Gx 47 [.int .u8 215, .int .u8 2, .int .u8 0, .int .i16 0, .int .i32 64]) ((.tuple ⟨[.agg ⟨[.int .i64 2, .int .i64 0, .int .i64 8, .bool false, .bool false]⟩, .int .i64 0]⟩, .cells false gl),[Bn 2,Dd 2]):=⟨by kernel_rfl,by kernel_rfl⟩
theorem eV:Rn (Gx 48 [.int .u8 215, .int .u8 2, .int .u8 0, .int .i16 0, .int .i32 64]) ((.int .i64 1, .cells false gl),[Bn 2,Dd 2]):=⟨by kernel_rfl,by kernel_rfl⟩
theorem eW(own:Bool)(L:List Value)(k:Nat)(p:Int):Rn (OW own L [.int .u8 215, .int .u8 2, .int .u8 0, .int .i16 0, .int .i32 64] [] k p) ((.tuple ⟨[.agg ⟨[.int .i64 2, .int .i64 0, .int .i64 8, .bool false, .bool false]⟩, .int .i64 0]⟩, .cells false gl, .cells own L),I3 p k::Jm L p [.int .u8 215, .int .u8 2, .int .u8 0, .int .i16 0, .int .i32 64]:: [Bn 2,Dd 2]):=⟨by kernel_rfl,by kernel_rfl⟩
theorem mH(d o n:Int):Rn (Gx 47 [.int .u8 53, .int .u8 d, .int .u8 0, .int .i16 o, .int .i32 n]) ((.tuple ⟨[.agg ⟨[.int .i64 6, .int .i64 3, .int .i64 0, .bool true, .bool false]⟩, .int .i64 0]⟩, .cells false gl),[Bn d]):=⟨by kernel_rfl,by kernel_rfl⟩
theorem mI(d o n:Int):Rn (Gx 48 [.int .u8 53, .int .u8 d, .int .u8 0, .int .i16 o, .int .i32 n]) ((.int .i64 1, .cells false gl),[Bn d]):=⟨by kernel_rfl,by kernel_rfl⟩
theorem mJ(d o n:Int)(own:Bool)(L:List Value)(k:Nat)(p:Int):Rn (OW own L [.int .u8 53, .int .u8 d, .int .u8 0, .int .i16 o, .int .i32 n] [] k p) ((.tuple ⟨[.agg ⟨[.int .i64 6, .int .i64 3, .int .i64 0, .bool true, .bool false]⟩, .int .i64 0]⟩, .cells false gl, .cells own L),I3 p k::Jm L p [.int .u8 53, .int .u8 d, .int .u8 0, .int .i16 o, .int .i32 n]:: [Bn d]):=⟨by kernel_rfl,by kernel_rfl⟩
theorem mK(d o n:Int):Rn (Gx 47 [.int .u8 85, .int .u8 d, .int .u8 0, .int .i16 o, .int .i32 n]) ((.tuple ⟨[.agg ⟨[.int .i64 6, .int .i64 5, .int .i64 0, .bool true, .bool false]⟩, .int .i64 0]⟩, .cells false gl),[Bn d]):=⟨by kernel_rfl,by kernel_rfl⟩
theorem mL(d o n:Int):Rn (Gx 48 [.int .u8 85, .int .u8 d, .int .u8 0, .int .i16 o, .int .i32 n]) ((.int .i64 1, .cells false gl),[Bn d]):=⟨by kernel_rfl,by kernel_rfl⟩
theorem mM(d o n:Int)(own:Bool)(L:List Value)(k:Nat)(p:Int):Rn (OW own L [.int .u8 85, .int .u8 d, .int .u8 0, .int .i16 o, .int .i32 n] [] k p) ((.tuple ⟨[.agg ⟨[.int .i64 6, .int .i64 5, .int .i64 0, .bool true, .bool false]⟩, .int .i64 0]⟩, .cells false gl, .cells own L),I3 p k::Jm L p [.int .u8 85, .int .u8 d, .int .u8 0, .int .i16 o, .int .i32 n]:: [Bn d]):=⟨by kernel_rfl,by kernel_rfl⟩
theorem eX(d o n:Int):Rn (Gx 47 [.int .u8 165, .int .u8 d, .int .u8 0, .int .i16 o, .int .i32 n]) ((.tuple ⟨[.agg ⟨[.int .i64 6, .int .i64 10, .int .i64 0, .bool true, .bool false]⟩, .int .i64 0]⟩, .cells false gl),[Bn d]):=⟨by kernel_rfl,by kernel_rfl⟩
theorem eY(d o n:Int):Rn (Gx 48 [.int .u8 165, .int .u8 d, .int .u8 0, .int .i16 o, .int .i32 n]) ((.int .i64 1, .cells false gl),[Bn d]):=⟨by kernel_rfl,by kernel_rfl⟩
theorem eZ(d o n:Int)(own:Bool)(L:List Value)(k:Nat)(p:Int):Rn (OW own L [.int .u8 165, .int .u8 d, .int .u8 0, .int .i16 o, .int .i32 n] [] k p) ((.tuple ⟨[.agg ⟨[.int .i64 6, .int .i64 10, .int .i64 0, .bool true, .bool false]⟩, .int .i64 0]⟩, .cells false gl, .cells own L),I3 p k::Jm L p [.int .u8 165, .int .u8 d, .int .u8 0, .int .i16 o, .int .i32 n]:: [Bn d]):=⟨by kernel_rfl,by kernel_rfl⟩
theorem mN(d o n:Int):Rn (Gx 47 [.int .u8 37, .int .u8 d, .int .u8 0, .int .i16 o, .int .i32 n]) ((.tuple ⟨[.agg ⟨[.int .i64 6, .int .i64 2, .int .i64 0, .bool true, .bool false]⟩, .int .i64 0]⟩, .cells false gl),[Bn d]):=⟨by kernel_rfl,by kernel_rfl⟩
theorem mO(d o n:Int):Rn (Gx 48 [.int .u8 37, .int .u8 d, .int .u8 0, .int .i16 o, .int .i32 n]) ((.int .i64 1, .cells false gl),[Bn d]):=⟨by kernel_rfl,by kernel_rfl⟩
theorem mP(d o n:Int)(own:Bool)(L:List Value)(k:Nat)(p:Int):Rn (OW own L [.int .u8 37, .int .u8 d, .int .u8 0, .int .i16 o, .int .i32 n] [] k p) ((.tuple ⟨[.agg ⟨[.int .i64 6, .int .i64 2, .int .i64 0, .bool true, .bool false]⟩, .int .i64 0]⟩, .cells false gl, .cells own L),I3 p k::Jm L p [.int .u8 37, .int .u8 d, .int .u8 0, .int .i16 o, .int .i32 n]:: [Bn d]):=⟨by kernel_rfl,by kernel_rfl⟩
theorem Yq(o:Int):Rn (Gx 47 [.int .u8 173, .int .u8 2, .int .u8 3, .int .i16 o, .int .i32 0]) ((.tuple ⟨[.agg ⟨[.int .i64 6, .int .i64 10, .int .i64 0, .bool true, .bool true]⟩, .int .i64 0]⟩, .cells false gl),[Bn 2,Bn 3]):=⟨by kernel_rfl,by kernel_rfl⟩
theorem Yr(o:Int):Rn (Gx 48 [.int .u8 173, .int .u8 2, .int .u8 3, .int .i16 o, .int .i32 0]) ((.int .i64 1, .cells false gl),[Bn 2,Bn 3]):=⟨by kernel_rfl,by kernel_rfl⟩
theorem Ys(o:Int)(own:Bool)(L:List Value)(k:Nat)(p:Int):Rn (OW own L [.int .u8 173, .int .u8 2, .int .u8 3, .int .i16 o, .int .i32 0] [] k p) ((.tuple ⟨[.agg ⟨[.int .i64 6, .int .i64 10, .int .i64 0, .bool true, .bool true]⟩, .int .i64 0]⟩, .cells false gl, .cells own L),I3 p k::Jm L p [.int .u8 173, .int .u8 2, .int .u8 3, .int .i16 o, .int .i32 0]:: [Bn 2,Bn 3]):=⟨by kernel_rfl,by kernel_rfl⟩
theorem ed(o:Int):Rn (Gx 47 [.int .u8 45, .int .u8 2, .int .u8 3, .int .i16 o, .int .i32 0]) ((.tuple ⟨[.agg ⟨[.int .i64 6, .int .i64 2, .int .i64 0, .bool true, .bool true]⟩, .int .i64 0]⟩, .cells false gl),[Bn 2,Bn 3]):=⟨by kernel_rfl,by kernel_rfl⟩
theorem ef(o:Int):Rn (Gx 48 [.int .u8 45, .int .u8 2, .int .u8 3, .int .i16 o, .int .i32 0]) ((.int .i64 1, .cells false gl),[Bn 2,Bn 3]):=⟨by kernel_rfl,by kernel_rfl⟩
theorem ei(o:Int)(own:Bool)(L:List Value)(k:Nat)(p:Int):Rn (OW own L [.int .u8 45, .int .u8 2, .int .u8 3, .int .i16 o, .int .i32 0] [] k p) ((.tuple ⟨[.agg ⟨[.int .i64 6, .int .i64 2, .int .i64 0, .bool true, .bool true]⟩, .int .i64 0]⟩, .cells false gl, .cells own L),I3 p k::Jm L p [.int .u8 45, .int .u8 2, .int .u8 3, .int .i16 o, .int .i32 0]:: [Bn 2,Bn 3]):=⟨by kernel_rfl,by kernel_rfl⟩
theorem mQ(o:Int):Rn (Gx 47 [.int .u8 5, .int .u8 0, .int .u8 0, .int .i16 o, .int .i32 0]) ((.tuple ⟨[.agg ⟨[.int .i64 7, .int .i64 0, .int .i64 0, .bool false, .bool false]⟩, .int .i64 0]⟩, .cells false gl),[]):=⟨by kernel_rfl,by kernel_rfl⟩
theorem mR(o:Int):Rn (Gx 48 [.int .u8 5, .int .u8 0, .int .u8 0, .int .i16 o, .int .i32 0]) ((.int .i64 1, .cells false gl),[]):=⟨by kernel_rfl,by kernel_rfl⟩
theorem mT(o:Int)(own:Bool)(L:List Value)(k:Nat)(p:Int):Rn (OW own L [.int .u8 5, .int .u8 0, .int .u8 0, .int .i16 o, .int .i32 0] [] k p) ((.tuple ⟨[.agg ⟨[.int .i64 7, .int .i64 0, .int .i64 0, .bool false, .bool false]⟩, .int .i64 0]⟩, .cells false gl, .cells own L),I3 p k::Jm L p [.int .u8 5, .int .u8 0, .int .u8 0, .int .i16 o, .int .i32 0]:: []):=⟨by kernel_rfl,by kernel_rfl⟩
theorem ej(n:Int):Rn (Gx 47 [.int .u8 24, .int .u8 3, .int .u8 0, .int .i16 0, .int .i32 n]) ((.tuple ⟨[.agg ⟨[.int .i64 10, .int .i64 0, .int .i64 0, .bool false, .bool false]⟩, .int .i64 0]⟩, .cells false gl),[Bn 3,Dd 3]):=⟨by kernel_rfl,by kernel_rfl⟩
theorem ek(n:Int):Rn (Gx 48 [.int .u8 24, .int .u8 3, .int .u8 0, .int .i16 0, .int .i32 n]) ((.int .i64 2, .cells false gl),[Bn 3,Dd 3]):=⟨by kernel_rfl,by kernel_rfl⟩
theorem en(n:Int)(h:Int)(own:Bool)(L:List Value)(k:Nat)(p:Int):Rn (OW own L [.int .u8 24, .int .u8 3, .int .u8 0, .int .i16 0, .int .i32 n] [.int .u8 0, .int .u8 0, .int .u8 0, .int .i16 0, .int .i32 h] k p) ((.tuple ⟨[.agg ⟨[.int .i64 10, .int .i64 0, .int .i64 0, .bool false, .bool false]⟩, .int .i64 0]⟩, .cells false gl, .cells own L),I3 p k::Jm L p [.int .u8 24, .int .u8 3, .int .u8 0, .int .i16 0, .int .i32 n]::([Bn 3,Dd 3]++ [wA p k,I3 (IntKind.wrap .i64 (Int.add p 1)) k,Jm L (IntKind.wrap .i64 (Int.add p 1)) [.int .u8 0, .int .u8 0, .int .u8 0, .int .i16 0, .int .i32 h]])):=⟨by kernel_rfl,by kernel_rfl⟩
noncomputable abbrev Hs:Ed:=CJ Tryz.prog kp 1 Fm 20
theorem nh{x y:List Value}(f:FuncId)(v:Value)(args:List Value)(m:Mem)(hc:(hO x y).call f=some v)(hs:(hO x y).says f args m v):Fm f args m=some (v,(hO x y).eff f m):=by cases hc
theorem ep{x y:List Value}(f:FuncId)(hc:(hO x y).call f=none)(a:List Value)(m:Mem):Fm f a m=none:=rfl
theorem Bj{f:FuncId}{x:List Value}{v:Value}{qs:List Prop}(h:Rn (Gx f x) ((v, .cells false gl),qs))(hq:∀q∈qs,q):∃m,Hs f [.agg ⟨x⟩] (mS gl [])=some (v,m)/\m.get 0= .cells false gl:=by
 obtain⟨v',m,a1,a2⟩:=H.callO_H (H:=hO [] []) (o:=Fm) (P:=Tryz.prog) (K:=kp) (G:=1) (k:=20) (f:=f) (args:= [.agg ⟨x⟩]) (m:=mS gl []) (g:=λv m=>(v,m.get 0)) nh ep h.1 h.2 hq
 have e1:v'=v:=congrArg (λx=>x.1) a2
 have e2:m.get 0= .cells false gl:=congrArg (λx=>x.2) a2
 exact⟨m,by rw[←e1];exact a1,e2⟩
def PZ(own:Bool)(L:List Value)(k:Nat)(p:Int)(w:List Value):Prop:=∃m,Hs 68 [Eu (A6 1 k), .int .i64 p] (mS gl [.cells own L])=some (.tuple ⟨[.agg ⟨w⟩, .int .i64 0]⟩,m)/\m.get 0= .cells false gl/\m.get 1= .cells own L
theorem DZ{own:Bool}{L x y w:List Value}{k:Nat}{p:Int}{qs:List Prop}(h:Rn (OW own L x y k p) ((.tuple ⟨[.agg ⟨w⟩, .int .i64 0]⟩, .cells false gl, .cells own L),qs))(hq:∀q∈qs,q):PZ own L k p w:=by
 obtain⟨v',m,a1,a2⟩:=H.callO_H (H:=hO x y) (o:=Fm) (P:=Tryz.prog) (K:=kp) (G:=1) (k:=20) (f:=68) (args:= [Eu (A6 1 k), .int .i64 p]) (m:=mS gl [.cells own L]) (g:=λv m=>(v,m.get 0,m.get 1)) nh ep h.1 h.2 hq
 have e1:v'=_:=congrArg (λx=>x.1) a2
 have e2:m.get 0=_:=congrArg (λx=>x.2.1) a2
 have e3:m.get 1=_:=congrArg (λx=>x.2.2) a2
 exact⟨m,a1.trans (by rw[e1]),e2,e3⟩
def P0(x:Bb)(w:List Value):Prop:=∃m,Hs 47 [.agg ⟨AV x⟩] (mS gl [])=some (.tuple ⟨[.agg ⟨w⟩, .int .i64 0]⟩,m)/\m.get 0= .cells false gl
def Sr(x:Bb)(n:Int):Prop:=∃m,Hs 48 [.agg ⟨AV x⟩] (mS gl [])=some (.int .i64 n,m)/\m.get 0= .cells false gl
structure Form(x:Bb)(w:List Value):Prop where
 of:∃m,Hs 47 [.agg ⟨AV x⟩] (mS gl [])=some (.tuple ⟨[.agg ⟨w⟩, .int .i64 0]⟩,m)/\m.get 0= .cells false gl
 pl:∃m,Hs 48 [.agg ⟨AV x⟩] (mS gl [])=some (.int .i64 1,m)/\m.get 0= .cells false gl
 al:∀(own:Bool) (l:List Bb) (p:Nat),l[p]?=some x->PZ own (AE l) l.length (p:Int) w
theorem AA{p:Prop}{l:List Prop}(h:p)(hl:∀q∈l,q):∀q∈p::l,q:=λq hq=>by
 rcases List.mem_cons.1 hq with rfl|hq
 ·exact h
 ·exact hl q hq
theorem AN:∀q∈([]:List Prop),q:=λq hq=>by cases hq
theorem D5{d:Int}(h:0<=d)(h':d<=9):CM d:=⟨h,h'⟩
theorem AU{d:Int}(h:CM d):Bn d:=by
 have:=h.2
 unfold Bn
 simp[BY,BX,B1];omega
theorem B4{d:Int}(h:CM d):Dd d:=by
 have:=h.2
 unfold Dd
 simp[BY,BX,B1];omega
theorem Cf{l:List Bb}{p:Nat}{x:Bb}(h:l[p]?=some x):I3 (p:Int) l.length:=by
 have:=(List.getElem?_eq_some_iff.1 h).1
 exact⟨by omega,by omega⟩
theorem Cg{l:List Bb}{p:Nat}{x:Bb}(h:l[p]?=some x):Jm (AE l) (p:Int) (AV x):=(EK h).2
theorem U4{p:Nat}(h:p<=1000000):IntKind.wrap .i64 (Int.add (p:Int) 1)=((p+1:Nat):Int):=Cx (by omega)
theorem WV{d n:Int}(hd:CM d):Form (D4 11 d n) [.int .i64 1, .int .i64 11, .int .i64 0, .bool true, .bool false]:=by
 have e:AV (D4 11 d n)= [.int .u8 183, .int .u8 d, .int .u8 0, .int .i16 0, .int .i32 n]:=by kernel_rfl
 exact⟨by rw[e];exact Bj (l9 d n) (AA (AU hd) (AA (B4 hd) AN)),by rw[e];exact Bj (la d n) (AA (AU hd) (AA (B4 hd) AN)),λown l p h=>DZ (lh d n own (AE l) l.length (p:Int)) (AA (Cf h) (AA (by rw[←e];exact Cg h) (AA (AU hd) (AA (B4 hd) AN))))⟩
theorem WW{d n:Int}(hd:CM d):Form (D4 5 d n) [.int .i64 1, .int .i64 5, .int .i64 0, .bool true, .bool false]:=by
 have e:AV (D4 5 d n)= [.int .u8 87, .int .u8 d, .int .u8 0, .int .i16 0, .int .i32 n]:=by kernel_rfl
 exact⟨by rw[e];exact Bj (lj d n) (AA (AU hd) (AA (B4 hd) AN)),by rw[e];exact Bj (lk d n) (AA (AU hd) (AA (B4 hd) AN)),λown l p h=>DZ (ll d n own (AE l) l.length (p:Int)) (AA (Cf h) (AA (by rw[←e];exact Cg h) (AA (AU hd) (AA (B4 hd) AN))))⟩
theorem WX{d s:Int}(hd:CM d)(hs:CM s):Form (Bk 11 d s) [.int .i64 1, .int .i64 11, .int .i64 0, .bool true, .bool true]:=by
 have e:AV (Bk 11 d s)= [.int .u8 191, .int .u8 d, .int .u8 s, .int .i16 0, .int .i32 0]:=by kernel_rfl
 exact⟨by rw[e];exact Bj (lq d s) (AA (AU hd) (AA (B4 hd) (AA (AU hs) AN))),by rw[e];exact Bj (lr d s) (AA (AU hd) (AA (B4 hd) (AA (AU hs) AN))),λown l p h=>DZ (lu d s own (AE l) l.length (p:Int)) (AA (Cf h) (AA (by rw[←e];exact Cg h) (AA (AU hd) (AA (B4 hd) (AA (AU hs) AN)))))⟩
theorem WY{d s:Int}(hd:CM d)(hs:CM s):Form (Bk 5 d s) [.int .i64 1, .int .i64 5, .int .i64 0, .bool true, .bool true]:=by
 have e:AV (Bk 5 d s)= [.int .u8 95, .int .u8 d, .int .u8 s, .int .i16 0, .int .i32 0]:=by kernel_rfl
 exact⟨by rw[e];exact Bj (ly d s) (AA (AU hd) (AA (B4 hd) (AA (AU hs) AN))),by rw[e];exact Bj (mB d s) (AA (AU hd) (AA (B4 hd) (AA (AU hs) AN))),λown l p h=>DZ (mC d s own (AE l) l.length (p:Int)) (AA (Cf h) (AA (by rw[←e];exact Cg h) (AA (AU hd) (AA (B4 hd) (AA (AU hs) AN)))))⟩
theorem bz{n:Int}:Form (HE n) [.int .i64 1, .int .i64 11, .int .i64 0, .bool false, .bool false]:=by
 have e:AV (HE n)= [.int .u8 180, .int .u8 0, .int .u8 0, .int .i16 0, .int .i32 n]:=by kernel_rfl
 exact⟨by rw[e];exact Bj (s3 n) (AA (AU (D5 (by decide) (by decide))) (AA (B4 (D5 (by decide) (by decide))) AN)),by rw[e];exact Bj (s4 n) (AA (AU (D5 (by decide) (by decide))) (AA (B4 (D5 (by decide) (by decide))) AN)),λown l p h=>DZ (s5 n own (AE l) l.length (p:Int)) (AA (Cf h) (AA (by rw[←e];exact Cg h) (AA (AU (D5 (by decide) (by decide))) (AA (B4 (D5 (by decide) (by decide))) AN))))⟩
theorem WZ:Form (D0) [.int .i64 9, .int .i64 0, .int .i64 0, .bool false, .bool false]:=by
 have e:AV (D0)= [.int .u8 149, .int .u8 0, .int .u8 0, .int .i16 0, .int .i32 0]:=by kernel_rfl
 exact⟨by rw[e];exact Bj (mD) AN,by rw[e];exact Bj (mE) AN,λown l p h=>DZ (mF own (AE l) l.length (p:Int)) (AA (Cf h) (AA (by rw[←e];exact Cg h) AN))⟩
theorem Sb{d s o:Int}(hd:CM d)(hs:CM s):Form (BL 1 d s o) [.int .i64 3, .int .i64 0, .int .i64 1, .bool false, .bool false]:=by
 have e:AV (BL 1 d s o)= [.int .u8 113, .int .u8 d, .int .u8 s, .int .i16 (HA o), .int .i32 0]:=by kernel_rfl
 exact⟨by rw[e];exact Bj (eB d s (HA o)) (AA (AU hd) (AA (B4 hd) (AA (AU hs) AN))),by rw[e];exact Bj (eC d s (HA o)) (AA (AU hd) (AA (B4 hd) (AA (AU hs) AN))),λown l p h=>DZ (eD d s (HA o) own (AE l) l.length (p:Int)) (AA (Cf h) (AA (by rw[←e];exact Cg h) (AA (AU hd) (AA (B4 hd) (AA (AU hs) AN)))))⟩
theorem Sc{d s o:Int}(hd:CM d)(hs:CM s):Form (BL 2 d s o) [.int .i64 3, .int .i64 0, .int .i64 2, .bool false, .bool false]:=by
 have e:AV (BL 2 d s o)= [.int .u8 105, .int .u8 d, .int .u8 s, .int .i16 (HA o), .int .i32 0]:=by kernel_rfl
 exact⟨by rw[e];exact Bj (eE d s (HA o)) (AA (AU hd) (AA (B4 hd) (AA (AU hs) AN))),by rw[e];exact Bj (eF d s (HA o)) (AA (AU hd) (AA (B4 hd) (AA (AU hs) AN))),λown l p h=>DZ (eG d s (HA o) own (AE l) l.length (p:Int)) (AA (Cf h) (AA (by rw[←e];exact Cg h) (AA (AU hd) (AA (B4 hd) (AA (AU hs) AN)))))⟩
theorem Sd{d s o:Int}(hd:CM d)(hs:CM s):Form (BL 4 d s o) [.int .i64 3, .int .i64 0, .int .i64 4, .bool false, .bool false]:=by
 have e:AV (BL 4 d s o)= [.int .u8 97, .int .u8 d, .int .u8 s, .int .i16 (HA o), .int .i32 0]:=by kernel_rfl
 exact⟨by rw[e];exact Bj (eI d s (HA o)) (AA (AU hd) (AA (B4 hd) (AA (AU hs) AN))),by rw[e];exact Bj (eJ d s (HA o)) (AA (AU hd) (AA (B4 hd) (AA (AU hs) AN))),λown l p h=>DZ (eK d s (HA o) own (AE l) l.length (p:Int)) (AA (Cf h) (AA (by rw[←e];exact Cg h) (AA (AU hd) (AA (B4 hd) (AA (AU hs) AN)))))⟩
theorem Se{d s o:Int}(hd:CM d)(hs:CM s):Form (BL 8 d s o) [.int .i64 3, .int .i64 0, .int .i64 8, .bool false, .bool false]:=by
 have e:AV (BL 8 d s o)= [.int .u8 121, .int .u8 d, .int .u8 s, .int .i16 (HA o), .int .i32 0]:=by kernel_rfl
 exact⟨by rw[e];exact Bj (eL d s (HA o)) (AA (AU hd) (AA (B4 hd) (AA (AU hs) AN))),by rw[e];exact Bj (eM d s (HA o)) (AA (AU hd) (AA (B4 hd) (AA (AU hs) AN))),λown l p h=>DZ (eN d s (HA o) own (AE l) l.length (p:Int)) (AA (Cf h) (AA (by rw[←e];exact Cg h) (AA (AU hd) (AA (B4 hd) (AA (AU hs) AN)))))⟩
theorem Sf:Form (Cm 2) [.int .i64 2, .int .i64 0, .int .i64 2, .bool false, .bool false]:=by
 have e:AV (Cm 2)= [.int .u8 215, .int .u8 2, .int .u8 0, .int .i16 0, .int .i32 16]:=by kernel_rfl
 exact⟨by rw[e];exact Bj (eO) (AA (AU (D5 (by decide) (by decide))) (AA (B4 (D5 (by decide) (by decide))) AN)),by rw[e];exact Bj (eP) (AA (AU (D5 (by decide) (by decide))) (AA (B4 (D5 (by decide) (by decide))) AN)),λown l p h=>DZ (eQ own (AE l) l.length (p:Int)) (AA (Cf h) (AA (by rw[←e];exact Cg h) (AA (AU (D5 (by decide) (by decide))) (AA (B4 (D5 (by decide) (by decide))) AN))))⟩
theorem Sg:Form (Cm 4) [.int .i64 2, .int .i64 0, .int .i64 4, .bool false, .bool false]:=by
 have e:AV (Cm 4)= [.int .u8 215, .int .u8 2, .int .u8 0, .int .i16 0, .int .i32 32]:=by kernel_rfl
 exact⟨by rw[e];exact Bj (eR) (AA (AU (D5 (by decide) (by decide))) (AA (B4 (D5 (by decide) (by decide))) AN)),by rw[e];exact Bj (eS) (AA (AU (D5 (by decide) (by decide))) (AA (B4 (D5 (by decide) (by decide))) AN)),λown l p h=>DZ (eT own (AE l) l.length (p:Int)) (AA (Cf h) (AA (by rw[←e];exact Cg h) (AA (AU (D5 (by decide) (by decide))) (AA (B4 (D5 (by decide) (by decide))) AN))))⟩
theorem Sh:Form (Cm 8) [.int .i64 2, .int .i64 0, .int .i64 8, .bool false, .bool false]:=by
 have e:AV (Cm 8)= [.int .u8 215, .int .u8 2, .int .u8 0, .int .i16 0, .int .i32 64]:=by kernel_rfl
 exact⟨by rw[e];exact Bj (eU) (AA (AU (D5 (by decide) (by decide))) (AA (B4 (D5 (by decide) (by decide))) AN)),by rw[e];exact Bj (eV) (AA (AU (D5 (by decide) (by decide))) (AA (B4 (D5 (by decide) (by decide))) AN)),λown l p h=>DZ (eW own (AE l) l.length (p:Int)) (AA (Cf h) (AA (by rw[←e];exact Cg h) (AA (AU (D5 (by decide) (by decide))) (AA (B4 (D5 (by decide) (by decide))) AN))))⟩
theorem W0{d o n:Int}(hd:CM d):Form (BJ (DU 3 d n) o) [.int .i64 6, .int .i64 3, .int .i64 0, .bool true, .bool false]:=by
 have e:AV (BJ (DU 3 d n) o)= [.int .u8 53, .int .u8 d, .int .u8 0, .int .i16 o, .int .i32 n]:=by kernel_rfl
 exact⟨by rw[e];exact Bj (mH d o n) (AA (AU hd) AN),by rw[e];exact Bj (mI d o n) (AA (AU hd) AN),λown l p h=>DZ (mJ d o n own (AE l) l.length (p:Int)) (AA (Cf h) (AA (by rw[←e];exact Cg h) (AA (AU hd) AN)))⟩
theorem Wa{d o n:Int}(hd:CM d):Form (BJ (DU 5 d n) o) [.int .i64 6, .int .i64 5, .int .i64 0, .bool true, .bool false]:=by
 have e:AV (BJ (DU 5 d n) o)= [.int .u8 85, .int .u8 d, .int .u8 0, .int .i16 o, .int .i32 n]:=by kernel_rfl
 exact⟨by rw[e];exact Bj (mK d o n) (AA (AU hd) AN),by rw[e];exact Bj (mL d o n) (AA (AU hd) AN),λown l p h=>DZ (mM d o n own (AE l) l.length (p:Int)) (AA (Cf h) (AA (by rw[←e];exact Cg h) (AA (AU hd) AN)))⟩
theorem Si{d o n:Int}(hd:CM d):Form (BJ (DU 10 d n) o) [.int .i64 6, .int .i64 10, .int .i64 0, .bool true, .bool false]:=by
 have e:AV (BJ (DU 10 d n) o)= [.int .u8 165, .int .u8 d, .int .u8 0, .int .i16 o, .int .i32 n]:=by kernel_rfl
 exact⟨by rw[e];exact Bj (eX d o n) (AA (AU hd) AN),by rw[e];exact Bj (eY d o n) (AA (AU hd) AN),λown l p h=>DZ (eZ d o n own (AE l) l.length (p:Int)) (AA (Cf h) (AA (by rw[←e];exact Cg h) (AA (AU hd) AN)))⟩
theorem Wb{d o n:Int}(hd:CM d):Form (BJ (DU 2 d n) o) [.int .i64 6, .int .i64 2, .int .i64 0, .bool true, .bool false]:=by
 have e:AV (BJ (DU 2 d n) o)= [.int .u8 37, .int .u8 d, .int .u8 0, .int .i16 o, .int .i32 n]:=by kernel_rfl
 exact⟨by rw[e];exact Bj (mN d o n) (AA (AU hd) AN),by rw[e];exact Bj (mO d o n) (AA (AU hd) AN),λown l p h=>DZ (mP d o n own (AE l) l.length (p:Int)) (AA (Cf h) (AA (by rw[←e];exact Cg h) (AA (AU hd) AN)))⟩
theorem PY{o:Int}:Form (BJ (Ez 10) o) [.int .i64 6, .int .i64 10, .int .i64 0, .bool true, .bool true]:=by
 have e:AV (BJ (Ez 10) o)= [.int .u8 173, .int .u8 2, .int .u8 3, .int .i16 o, .int .i32 0]:=by kernel_rfl
 exact⟨by rw[e];exact Bj (Yq o) (AA (AU (D5 (by decide) (by decide))) (AA (AU (D5 (by decide) (by decide))) AN)),by rw[e];exact Bj (Yr o) (AA (AU (D5 (by decide) (by decide))) (AA (AU (D5 (by decide) (by decide))) AN)),λown l p h=>DZ (Ys o own (AE l) l.length (p:Int)) (AA (Cf h) (AA (by rw[←e];exact Cg h) (AA (AU (D5 (by decide) (by decide))) (AA (AU (D5 (by decide) (by decide))) AN))))⟩
theorem Sj{o:Int}:Form (BJ (Ez 2) o) [.int .i64 6, .int .i64 2, .int .i64 0, .bool true, .bool true]:=by
 have e:AV (BJ (Ez 2) o)= [.int .u8 45, .int .u8 2, .int .u8 3, .int .i16 o, .int .i32 0]:=by kernel_rfl
 exact⟨by rw[e];exact Bj (ed o) (AA (AU (D5 (by decide) (by decide))) (AA (AU (D5 (by decide) (by decide))) AN)),by rw[e];exact Bj (ef o) (AA (AU (D5 (by decide) (by decide))) (AA (AU (D5 (by decide) (by decide))) AN)),λown l p h=>DZ (ei o own (AE l) l.length (p:Int)) (AA (Cf h) (AA (by rw[←e];exact Cg h) (AA (AU (D5 (by decide) (by decide))) (AA (AU (D5 (by decide) (by decide))) AN))))⟩
theorem Wc{o:Int}:Form (BJ CD o) [.int .i64 7, .int .i64 0, .int .i64 0, .bool false, .bool false]:=by
 have e:AV (BJ CD o)= [.int .u8 5, .int .u8 0, .int .u8 0, .int .i16 o, .int .i32 0]:=by kernel_rfl
 exact⟨by rw[e];exact Bj (mQ o) AN,by rw[e];exact Bj (mR o) AN,λown l p h=>DZ (mT o own (AE l) l.length (p:Int)) (AA (Cf h) (AA (by rw[←e];exact Cg h) AN))⟩
theorem OF{n:Int}:P0 (Bs n) [.int .i64 10, .int .i64 0, .int .i64 0, .bool false, .bool false]/\Sr (Bs n) 2/\∀(own:Bool) (l:List Bb) (p:Nat),l[p]?=some (Bs n)->l[p+1]?=some (DQ n)->p+2<l.length->l.length<=1000000->PZ own (AE l) l.length (p:Int) [.int .i64 10, .int .i64 0, .int .i64 0, .bool false, .bool false]:=by
 have e:AV (Bs n)= [.int .u8 24, .int .u8 3, .int .u8 0, .int .i16 0, .int .i32 (Kl (n % 4294967296))]:=by kernel_rfl
 have e':AV (DQ n)= [.int .u8 0, .int .u8 0, .int .u8 0, .int .i16 0, .int .i32 (Kl (n / 4294967296))]:=by kernel_rfl
 refine⟨by unfold P0;rw[e];exact Bj (ej (Kl (n % 4294967296))) (AA (AU (D5 (by decide) (by decide))) (AA (B4 (D5 (by decide) (by decide))) AN)),by unfold Sr;rw[e];exact Bj (ek (Kl (n % 4294967296))) (AA (AU (D5 (by decide) (by decide))) (AA (B4 (D5 (by decide) (by decide))) AN)),λown l p h h' hp hl=>?_⟩
 have hw:IntKind.wrap .i64 (Int.add (p:Int) 1)=((p+1:Nat):Int):=U4 (by omega)
 exact DZ (en (Kl (n % 4294967296)) (Kl (n / 4294967296)) own (AE l) l.length (p:Int)) (AA (Cf h) (AA (by rw[←e];exact Cg h) (AA (AU (D5 (by decide) (by decide))) (AA (B4 (D5 (by decide) (by decide))) (AA (by unfold wA;rw[hw];simp[BY,BX,B1];omega) (AA (by rw[hw];exact Cf h') (AA (by rw[hw,←e'];exact Cg h') AN)))))))
theorem Yi{r b:Int}(hr:0<=r/\r<72057594037927936)(hb:0<=b/\b<256):rr (wT r) (IntKind.wrap .u64 b)=256*r+b:=by
 obtain⟨n,rfl⟩:=Int.eq_ofNat_of_zero_le hr.1
 obtain⟨c,rfl⟩:=Int.eq_ofNat_of_zero_le hb.1
 have h1:=hr.2
 have h2:=hb.2
 have e1:wT (n:Int)=((n <<<8:Nat):Int):=by
  show IntKind.wrap .u64 ((n:Int)*256)=_;rw[Nat.shiftLeft_eq,IntWalk.u64_in _ (by omega)];simp
 have e2:IntKind.wrap .u64 (c:Int)=(c:Int):=IntWalk.u64_in _ (by omega)
 rw[e1,e2]
 have hs:n <<<8=n*256:=by rw[Nat.shiftLeft_eq]
 show IntKind.wrap .u64 ((BitVec.ofInt 64 ((n <<<8:Nat):Int)|||BitVec.ofInt 64 (c:Int)).toNat:Nat)=_
 rw[BitVec.toNat_or,Fx (by rw[hs];omega),Fx (by omega),VO n c (by omega),IntWalk.u64_in _ (by omega)]
 omega
theorem XG:∀(l:List Int) (r:Int),(∀b∈l,0<=b/\b<256)->0<=r->r<256 ^ (8 - l.length)->l.length<=8->l.foldl (λr b=>rr (wT r) (IntKind.wrap .u64 b)) r=l.foldl (λn b=>256*n+b) r
 | [],r,_,_,_,_=>rfl
 |b::l,r,hb,h0,h1,hl=>by
  have hb0:=hb b (List.mem_cons_self ..);simp only[List.length_cons]at h1 hl
  have hp:(256:Int) ^ (8 - (l.length+1))<=72057594037927936:=by
   have:l.length=0\/l.length=1\/l.length=2\/l.length=3\/l.length=4\/l.length=5\/l.length=6\/l.length=7:=by omega
   rcases this with h|h|h|h|h|h|h|h<;>rw[h] <;>decide
  rw[List.foldl_cons,List.foldl_cons,Yi ⟨h0,by omega⟩ hb0];refine XG l _ (λx hx=>hb x (List.mem_cons_of_mem _ hx)) (by omega) ?_ (by omega)
  have e:(256:Int) ^ (8 - l.length)=256*256 ^ (8 - (l.length+1)):=by
   rw[show 8 - l.length=(8 - (l.length+1))+1 by omega,Int.pow_succ];exact Int.mul_comm _ _
  rw[e];omega
theorem lE{l:List Int}(h:∀b∈l,0<=b/\b<256)(hl:l.length<=8):Yg l=FT l:=by
 unfold Yg FT
 refine XG l 0 h (by omega) ?_ hl
 exact Int.pow_pos (by decide)
theorem db(z:Nat)(own:Bool)(P:List Value)(np cap:Nat)(sp:Option Nat)(off:Int):Rn (Yh true 0 0 none z (λ_=>0) own P (IA np cap sp) off) ((.tuple ⟨[.int .u64 0, .bool false]⟩, .cells false gl, .cells own P),[fK off z np true]):=⟨by kernel_rfl,by kernel_rfl⟩
theorem dF{gt:Bool}{o' c':Nat}{sp:Option Nat}{z:Nat}{B:Nat->Int}(f:FuncId)(v:Value)(args:List Value)(m:Mem)(hc:(nR gt o' c' sp z B).call f=some v)(hs:(nR gt o' c' sp z B).says f args m v):Fm f args m=some (v,(nR gt o' c' sp z B).eff f m):=by cases hc
theorem Ws{gt:Bool}{o' c':Nat}{sp:Option Nat}{z:Nat}{B:Nat->Int}(f:FuncId)(hc:(nR gt o' c' sp z B).call f=none)(a:List Value)(m:Mem):Fm f a m=none:=rfl
theorem Kg{gt:Bool}{o' c':Nat}{sp:Option Nat}{z:Nat}{B:Nat->Int}{own:Bool}{P:List Value}{pv v:Value}{off:Int}{qs:List Prop}
  (h:Rn (Yh gt o' c' sp z B own P pv off) ((v, .cells false gl, .cells own P),qs)) (hq:∀q∈qs,q):
  ∃m,Hs 63 [pv, .int .i64 off, .int .i64 (z:Int)] (mS gl [.cells own P])=some (v,m)/\m.get 0= .cells false gl/\m.get 1= .cells own P:=by
 obtain⟨v',m,a1,a2⟩:=H.callO_H (H:=nR gt o' c' sp z B) (o:=Fm) (P:=Tryz.prog) (K:=kp) (G:=1) (k:=20) (f:=63) (args:= [pv, .int .i64 off, .int .i64 (Int.ofNat z)]) (m:=mS gl [.cells own P]) (g:=λv m=>(v,m.get 0,m.get 1)) dF Ws h.1 h.2 hq
 have e1:v'=_:=congrArg (λx=>x.1) a2
 have e2:m.get 0=_:=congrArg (λx=>x.2.1) a2
 have e3:m.get 1=_:=congrArg (λx=>x.2.2) a2
 exact⟨m,a1.trans (by rw[e1]),e2,e3⟩
theorem Ka{off:Nat}{z:Nat}(h1:off<=1000000)(h2:z<=8):IntKind.wrap .i64 (Int.add (off:Int) (Int.ofNat z))=((off+z:Nat):Int):=by
 have:Int.add (off:Int) (Int.ofNat z)=((off+z:Nat):Int):=rfl
 rw[this]
 exact wrap_i64 ⟨by omega,by omega⟩
theorem Wr{own:Bool}{pk:List Int}{cap off z:Nat}{sp:Option Nat}(h1:off<=1000000)(h2:z<=8)(hlt:pk.length<off+z):
  ∃m,Hs 63 [IA pk.length cap sp, .int .i64 (off:Int), .int .i64 (z:Int)] (mS gl [.cells own (AH pk)])=some (.tuple ⟨[.int .u64 0, .bool false]⟩,m)/\m.get 0= .cells false gl/\m.get 1= .cells own (AH pk):=
 Kg (db z own (AH pk) pk.length cap sp (off:Int)) (AA (by
  unfold fK;rw[Ka h1 h2];simp[BY,BX,B1];omega) AN)
theorem Yj{pk:List Int}{o z:Nat}(h:o+z<=pk.length):cut pk o z=(List.range z).map λi=>pk.getD (o+i) 0:=by
 apply List.ext_getElem?
 intro i
 rw[List.getElem?_map]
 by_cases hi:i<z
 ·rw[fR hi,List.getElem?_range hi];show pk[o+i]?=some (pk.getD (o+i) 0);rw[List.getD_eq_getElem?_getD,List.getElem?_eq_getElem (by omega)];rfl
 ·rw[List.getElem?_eq_none (by unfold cut;simp;omega),List.getElem?_eq_none (by simp;omega)];rfl
section
variable{own:Bool}{pk:List Int}{cap off z:Nat}
theorem Qs(h1:off<=1000000)(h2:z<=8)(hle:off+z<=pk.length):fK (off:Int) z pk.length false:=by
 unfold fK
 rw[Ka h1 h2]
 simp[BY,BX,B1];omega
theorem Qt(h1:off<=1000000)(h2:z<=8)(hz:0<z)(hle:off+z<=pk.length)(hc:pk.length<=cap):tV (off:Int) z pk.length cap none off (cap - off):=by
 unfold tV
 rw[Ka h1 h2]
 have hsz:Bv Tryz.prog 5=some 1:=by kernel_rfl
 have hu:Tryz.prog.underlying 23=some (.slice 5):=by kernel_rfl
 unfold J5 IA
 simp only[hu,hsz]
 unfold Eo
 simp only[En]
 rw[if_pos ⟨by omega,by omega⟩]
 simp only[Int.toNat_natCast]
 rw[if_pos ⟨by omega,by omega⟩]
 simp only[Int.toNat_natCast]
 rw[if_neg (by omega)]
 simp
theorem E4{i:Nat}(hi:i<z)(hle:off+z<=pk.length):TS (AH pk) off i (λj=>pk.getD j 0):=by
 show H.blkNth (.cells true (AH pk)) (Nat.add off (Nat.mul i 1))=some (.int .u8 (pk.getD (Nat.add off (Nat.mul i 1)) 0))
 have e:Nat.add off (Nat.mul i 1)=off+i:=by show off+i*1=off+i;omega
 rw[e]
 show(AH pk)[off+i]?=_
 unfold AH
 rw[List.getElem?_map,List.getElem?_eq_getElem (by omega),List.getD_eq_getElem?_getD,List.getElem?_eq_getElem (by omega)]
 rfl
theorem dD(hb:∀b∈pk,0<=b/\b<256)(h1:off<=1000000)(hz:z=1\/z=2\/z=4\/z=8)(hle:off+z<=pk.length)(hc:pk.length<=cap):
  ∃m,Hs 63 [IA pk.length cap none, .int .i64 (off:Int), .int .i64 (z:Int)] (mS gl [.cells own (AH pk)])=some (.tuple ⟨[.int .u64 (FT (cut pk off z)), .bool true]⟩,m)/\m.get 0= .cells false gl/\m.get 1= .cells own (AH pk):=by
 have hcb:∀b∈cut pk off z,0<=b/\b<256:=λb h=>hb b (List.mem_of_mem_drop (List.mem_of_mem_take h))
 have hcl:(cut pk off z).length<=8:=by unfold cut;simp;omega
 rw[←lE hcb hcl,Yj hle]
 have h8:z<=8:=by omega
 have hz0:0<z:=by omega
 rcases hz with rfl|rfl|rfl|rfl
 ·exact Kg (ru own (AH pk) pk.length cap none (off:Int) off (cap - off) (λj=>pk.getD j 0)) (AA (Qs h1 h8 hle) (AA (Qt h1 h8 hz0 hle hc) (AA (E4 (i:=0) (by decide) hle) AN)))
 ·exact Kg (ry own (AH pk) pk.length cap none (off:Int) off (cap - off) (λj=>pk.getD j 0)) (AA (Qs h1 h8 hle) (AA (Qt h1 h8 hz0 hle hc) (AA (E4 (i:=0) (by decide) hle) (AA (E4 (i:=1) (by decide) hle) AN))))
 ·exact Kg (rz own (AH pk) pk.length cap none (off:Int) off (cap - off) (λj=>pk.getD j 0)) (AA (Qs h1 h8 hle) (AA (Qt h1 h8 hz0 hle hc) (AA (E4 (i:=0) (by decide) hle) (AA (E4 (i:=1) (by decide) hle) (AA (E4 (i:=2) (by decide) hle) (AA (E4 (i:=3) (by decide) hle) AN))))))
 ·exact Kg (sA own (AH pk) pk.length cap none (off:Int) off (cap - off) (λj=>pk.getD j 0)) (AA (Qs h1 h8 hle) (AA (Qt h1 h8 hz0 hle hc) (AA (E4 (i:=0) (by decide) hle) (AA (E4 (i:=1) (by decide) hle) (AA (E4 (i:=2) (by decide) hle) (AA (E4 (i:=3) (by decide) hle) (AA (E4 (i:=4) (by decide) hle) (AA (E4 (i:=5) (by decide) hle) (AA (E4 (i:=6) (by decide) hle) (AA (E4 (i:=7) (by decide) hle) AN))))))))))
end
noncomputable def hH(N:Int)(ok b1 b2 lt15:Bool)(b14:Int)(o63:CX):H.Hint where
 ix t:=Nat.beq t 23
 ld _ t _:=cond (Nat.beq t 5) (some (.int .u8 b14)) none
 cmp op t:=cond (Nat.beq t 3) (BinOp.rec (motive:=λ_=>Option Bool) none none none none none none none none none none none none none (some lt15) none none none op) none
 ap _:=none
 call f:=cond (Nat.beq f 18) (some (.bool true)) (cond (Nat.beq f 63) (some (.tuple ⟨[.int .u64 N, .bool ok]⟩)) none)
 spec _ _ _ _:=False
 blk:=0
 specM f:=some λargs m v=>o63 f args m=some (v,m)
 cmpO op t a:=cond (Nat.beq t 38) (BinOp.rec (motive:=λ_=>Option Bool) none none none none none none none none none none none none none none (match a with| .tmp 27=>some b1| .tmp 33=>some b2|_=>none) none none op) none
noncomputable def AK(neg:Bool)(kind pos size mask lo hi:Int):List Value:= [.bool neg, .int .i64 kind, .int .i64 pos, .int .i64 size, .int .u64 mask, .int .u64 lo, .int .u64 hi]
noncomputable def JH(N:Int)(ok b1 b2 lt15:Bool)(b14:Int)(o63:CX)(own:Bool)(P:List Value)(pv:Value)(port:Int)(tv:List Value):Option (H.TT (Value×BH×BH)):=
 H.callT (hH N ok b1 b2 lt15 b14 o63) Tryz.prog kp 1 20 17 [.agg ⟨tv⟩,pv, .int .u32 port] (mS gl [.cells own P]) λv m=>some ((v,m.get 0,m.get 1),[],[])
noncomputable def Ch(a b:Int)(r:Bool):Prop:=BY Tryz.prog kp .leq 38 (.int .u64 a) (.int .u64 b)=some (.bool r)
noncomputable def TQ(o63:CX)(own:Bool)(P tv:List Value):Prop:=o63 18 [.agg ⟨tv⟩] (mS gl [.cells own P, .cells true tv])=some (.bool true,mS gl [.cells own P, .cells true tv])
noncomputable def Qh(N:Int)(ok b1 b2 lt15:Bool)(b14:Int)(o63:CX)(port:Int)(tv:List Value):Option (H.TT (Value×BH)):=
 H.callT (hH N ok b1 b2 lt15 b14 o63) Tryz.prog kp 1 20 17 [.agg ⟨tv⟩, .slice none 0 0, .int .u32 port] (mS gl []) λv m=>some ((v,m.get 0),[],[])
noncomputable def Qi(o63:CX)(tv:List Value):Prop:=o63 18 [.agg ⟨tv⟩] (mS gl [.cells true tv])=some (.bool true,mS gl [.cells true tv])
noncomputable def tN:List Value:= [.string ⟨#[]⟩, .func (.func 62) #[] #[]]
noncomputable def wP:List Value:= [.string ⟨#[112,97,115,116,32]⟩, .func (.func 64) #[] #[]]
noncomputable def cU(o63:CX)(own:Bool)(P:List Value)(np cap:Nat)(sp:Option Nat)(tv kb:List Value)(at_ size N:Int)(ok:Bool):Prop:=
 o63 63 [IA np cap sp, .int .i64 at_, .int .i64 size] (mS gl [.cells own P, .cells true tv, .cells true kb, .cells true tv])=some (.tuple ⟨[.int .u64 N, .bool ok]⟩,mS gl [.cells own P, .cells true tv, .cells true kb, .cells true tv])
noncomputable def qt(o63:CX)(tv:List Value)(at_ size:Int):Prop:=
 o63 63 [.slice none 0 0, .int .i64 at_, .int .i64 size] (mS gl [.cells true tv, .cells true tN, .cells true tv])=some (.tuple ⟨[.int .u64 0, .bool false]⟩,mS gl [.cells true tv, .cells true tN, .cells true tv])
noncomputable def MP(a b:Int):Int:=IntKind.wrap .u64 ((BitVec.ofInt (IntKind.bits .u64) a &&& BitVec.ofInt (IntKind.bits .u64) b).toNat:Nat)
noncomputable def qu(b14 pos:Int):Int:=IntKind.wrap .i64 (Int.add (IntKind.wrap .i64 (Int.add 14 (IntKind.wrap .i64 (Int.mul 4 (IntKind.wrap .i64 (IntKind.wrap .u8 ((BitVec.ofInt (IntKind.bits .u8) b14 &&& BitVec.ofInt (IntKind.bits .u8) 15).toNat:Nat))))))) pos)
noncomputable def Ob(np:Nat)(b:Bool):Prop:=BY Tryz.prog kp .lss 3 (.int .i64 (Int.ofNat np)) (.int .i64 15)=some (.bool b)
noncomputable def cV(p:Int)(k:Nat):Prop:=0<=p/\p< (k:Int)
noncomputable def cW(P:List Value)(b14:Int):Prop:=H.ldOk (.cells true P) (Nat.add 0 (Nat.mul 14 1)) false 1 (.int .u8 b14)
theorem cX(o63:CX)(own:Bool)(P:List Value)(np cap:Nat)(sp:Option Nat)(port pos size mask lo hi:Int)(neg:Bool):Rn (JH 0 true true true false 0 o63 own P (IA np cap sp) port (AK neg 1 pos size mask lo hi)) ((.bool (!neg), .cells false gl, .cells own P),[TQ o63 own P (AK neg 1 pos size mask lo hi),Ch lo (IntKind.wrap .u64 (Int.ofNat np)) true,Ch (IntKind.wrap .u64 (Int.ofNat np)) hi true]):=by
 cases neg<;>exact⟨by kernel_rfl,by kernel_rfl⟩
theorem cY(o63:CX)(own:Bool)(P:List Value)(np cap:Nat)(sp:Option Nat)(port pos size mask lo hi:Int)(neg:Bool):Rn (JH 0 true true false false 0 o63 own P (IA np cap sp) port (AK neg 1 pos size mask lo hi)) ((.bool neg, .cells false gl, .cells own P),[TQ o63 own P (AK neg 1 pos size mask lo hi),Ch lo (IntKind.wrap .u64 (Int.ofNat np)) true,Ch (IntKind.wrap .u64 (Int.ofNat np)) hi false]):=by
 cases neg<;>exact⟨by kernel_rfl,by kernel_rfl⟩
theorem kI(o63:CX)(own:Bool)(P:List Value)(np cap:Nat)(sp:Option Nat)(port pos size mask lo hi:Int)(neg:Bool):Rn (JH 0 true false false false 0 o63 own P (IA np cap sp) port (AK neg 1 pos size mask lo hi)) ((.bool neg, .cells false gl, .cells own P),[TQ o63 own P (AK neg 1 pos size mask lo hi),Ch lo (IntKind.wrap .u64 (Int.ofNat np)) false]):=by
 cases neg<;>exact⟨by kernel_rfl,by kernel_rfl⟩
theorem cZ(o63:CX)(own:Bool)(P:List Value)(np cap:Nat)(sp:Option Nat)(port pos size mask lo hi:Int)(neg:Bool):Rn (JH 0 true true true false 0 o63 own P (IA np cap sp) port (AK neg 2 pos size mask lo hi)) ((.bool (!neg), .cells false gl, .cells own P),[TQ o63 own P (AK neg 2 pos size mask lo hi),Ch lo (IntKind.wrap .u64 port) true,Ch (IntKind.wrap .u64 port) hi true]):=by
 cases neg<;>exact⟨by kernel_rfl,by kernel_rfl⟩
theorem c9(o63:CX)(own:Bool)(P:List Value)(np cap:Nat)(sp:Option Nat)(port pos size mask lo hi:Int)(neg:Bool):Rn (JH 0 true true false false 0 o63 own P (IA np cap sp) port (AK neg 2 pos size mask lo hi)) ((.bool neg, .cells false gl, .cells own P),[TQ o63 own P (AK neg 2 pos size mask lo hi),Ch lo (IntKind.wrap .u64 port) true,Ch (IntKind.wrap .u64 port) hi false]):=by
 cases neg<;>exact⟨by kernel_rfl,by kernel_rfl⟩
theorem kJ(o63:CX)(own:Bool)(P:List Value)(np cap:Nat)(sp:Option Nat)(port pos size mask lo hi:Int)(neg:Bool):Rn (JH 0 true false false false 0 o63 own P (IA np cap sp) port (AK neg 2 pos size mask lo hi)) ((.bool neg, .cells false gl, .cells own P),[TQ o63 own P (AK neg 2 pos size mask lo hi),Ch lo (IntKind.wrap .u64 port) false]):=by
 cases neg<;>exact⟨by kernel_rfl,by kernel_rfl⟩
theorem cg(o63:CX)(own:Bool)(P:List Value)(np cap:Nat)(sp:Option Nat)(port pos size mask lo hi N b14:Int)(neg:Bool):Rn (JH N true true true false b14 o63 own P (IA np cap sp) port (AK neg 3 pos size mask lo hi)) ((.bool (!neg), .cells false gl, .cells own P),[TQ o63 own P (AK neg 3 pos size mask lo hi),cU o63 own P np cap sp (AK neg 3 pos size mask lo hi) tN pos size N true,Ch lo (MP N mask) true,Ch (MP N mask) hi true]):=by
 cases neg<;>exact⟨by kernel_rfl,by kernel_rfl⟩
theorem ck(o63:CX)(own:Bool)(P:List Value)(np cap:Nat)(sp:Option Nat)(port pos size mask lo hi N b14:Int)(neg:Bool):Rn (JH N true true false false b14 o63 own P (IA np cap sp) port (AK neg 3 pos size mask lo hi)) ((.bool neg, .cells false gl, .cells own P),[TQ o63 own P (AK neg 3 pos size mask lo hi),cU o63 own P np cap sp (AK neg 3 pos size mask lo hi) tN pos size N true,Ch lo (MP N mask) true,Ch (MP N mask) hi false]):=by
 cases neg<;>exact⟨by kernel_rfl,by kernel_rfl⟩
theorem kK(o63:CX)(own:Bool)(P:List Value)(np cap:Nat)(sp:Option Nat)(port pos size mask lo hi N b14:Int)(neg:Bool):Rn (JH N true false false false b14 o63 own P (IA np cap sp) port (AK neg 3 pos size mask lo hi)) ((.bool neg, .cells false gl, .cells own P),[TQ o63 own P (AK neg 3 pos size mask lo hi),cU o63 own P np cap sp (AK neg 3 pos size mask lo hi) tN pos size N true,Ch lo (MP N mask) false]):=by
 cases neg<;>exact⟨by kernel_rfl,by kernel_rfl⟩
theorem kL(o63:CX)(own:Bool)(P:List Value)(np cap:Nat)(sp:Option Nat)(port pos size mask lo hi N b14:Int)(neg:Bool):Rn (JH N false false false false b14 o63 own P (IA np cap sp) port (AK neg 3 pos size mask lo hi)) ((.bool neg, .cells false gl, .cells own P),[TQ o63 own P (AK neg 3 pos size mask lo hi),cU o63 own P np cap sp (AK neg 3 pos size mask lo hi) tN pos size N false]):=by
 cases neg<;>exact⟨by kernel_rfl,by kernel_rfl⟩
theorem cm(o63:CX)(own:Bool)(P:List Value)(np cap:Nat)(sp:Option Nat)(port pos size mask lo hi N b14:Int)(neg:Bool):Rn (JH N true true true false b14 o63 own P (IA np cap sp) port (AK neg 4 pos size mask lo hi)) ((.bool (!neg), .cells false gl, .cells own P),[TQ o63 own P (AK neg 4 pos size mask lo hi),Ob np false,cV 14 np,cW P b14,cU o63 own P np cap sp (AK neg 4 pos size mask lo hi) wP (qu b14 pos) size N true,Ch lo (MP N mask) true,Ch (MP N mask) hi true]):=by
 cases neg<;>exact⟨by kernel_rfl,by kernel_rfl⟩
theorem cq(o63:CX)(own:Bool)(P:List Value)(np cap:Nat)(sp:Option Nat)(port pos size mask lo hi N b14:Int)(neg:Bool):Rn (JH N true true false false b14 o63 own P (IA np cap sp) port (AK neg 4 pos size mask lo hi)) ((.bool neg, .cells false gl, .cells own P),[TQ o63 own P (AK neg 4 pos size mask lo hi),Ob np false,cV 14 np,cW P b14,cU o63 own P np cap sp (AK neg 4 pos size mask lo hi) wP (qu b14 pos) size N true,Ch lo (MP N mask) true,Ch (MP N mask) hi false]):=by
 cases neg<;>exact⟨by kernel_rfl,by kernel_rfl⟩
theorem kM(o63:CX)(own:Bool)(P:List Value)(np cap:Nat)(sp:Option Nat)(port pos size mask lo hi N b14:Int)(neg:Bool):Rn (JH N true false false false b14 o63 own P (IA np cap sp) port (AK neg 4 pos size mask lo hi)) ((.bool neg, .cells false gl, .cells own P),[TQ o63 own P (AK neg 4 pos size mask lo hi),Ob np false,cV 14 np,cW P b14,cU o63 own P np cap sp (AK neg 4 pos size mask lo hi) wP (qu b14 pos) size N true,Ch lo (MP N mask) false]):=by
 cases neg<;>exact⟨by kernel_rfl,by kernel_rfl⟩
theorem kN(o63:CX)(own:Bool)(P:List Value)(np cap:Nat)(sp:Option Nat)(port pos size mask lo hi N b14:Int)(neg:Bool):Rn (JH N false false false false b14 o63 own P (IA np cap sp) port (AK neg 4 pos size mask lo hi)) ((.bool neg, .cells false gl, .cells own P),[TQ o63 own P (AK neg 4 pos size mask lo hi),Ob np false,cV 14 np,cW P b14,cU o63 own P np cap sp (AK neg 4 pos size mask lo hi) wP (qu b14 pos) size N false]):=by
 cases neg<;>exact⟨by kernel_rfl,by kernel_rfl⟩
theorem kO(o63:CX)(own:Bool)(P:List Value)(np cap:Nat)(sp:Option Nat)(port pos size mask lo hi:Int)(neg:Bool):Rn (JH 0 false false false true 0 o63 own P (IA np cap sp) port (AK neg 4 pos size mask lo hi)) ((.bool neg, .cells false gl, .cells own P),[TQ o63 own P (AK neg 4 pos size mask lo hi),Ob np true]):=by
 cases neg<;>exact⟨by kernel_rfl,by kernel_rfl⟩
theorem cr(o63:CX)(port pos size mask lo hi:Int)(neg:Bool):Rn (Qh 0 true true true false 0 o63 port (AK neg 1 pos size mask lo hi)) ((.bool (!neg), .cells false gl),[Qi o63 (AK neg 1 pos size mask lo hi),Ch lo (IntKind.wrap .u64 (Int.ofNat 0)) true,Ch (IntKind.wrap .u64 (Int.ofNat 0)) hi true]):=by
 cases neg<;>exact⟨by kernel_rfl,by kernel_rfl⟩
theorem cu(o63:CX)(port pos size mask lo hi:Int)(neg:Bool):Rn (Qh 0 true true false false 0 o63 port (AK neg 1 pos size mask lo hi)) ((.bool neg, .cells false gl),[Qi o63 (AK neg 1 pos size mask lo hi),Ch lo (IntKind.wrap .u64 (Int.ofNat 0)) true,Ch (IntKind.wrap .u64 (Int.ofNat 0)) hi false]):=by
 cases neg<;>exact⟨by kernel_rfl,by kernel_rfl⟩
theorem kP(o63:CX)(port pos size mask lo hi:Int)(neg:Bool):Rn (Qh 0 true false false false 0 o63 port (AK neg 1 pos size mask lo hi)) ((.bool neg, .cells false gl),[Qi o63 (AK neg 1 pos size mask lo hi),Ch lo (IntKind.wrap .u64 (Int.ofNat 0)) false]):=by
 cases neg<;>exact⟨by kernel_rfl,by kernel_rfl⟩
theorem cw(o63:CX)(port pos size mask lo hi:Int)(neg:Bool):Rn (Qh 0 true true true false 0 o63 port (AK neg 2 pos size mask lo hi)) ((.bool (!neg), .cells false gl),[Qi o63 (AK neg 2 pos size mask lo hi),Ch lo (IntKind.wrap .u64 port) true,Ch (IntKind.wrap .u64 port) hi true]):=by
 cases neg<;>exact⟨by kernel_rfl,by kernel_rfl⟩
theorem cy(o63:CX)(port pos size mask lo hi:Int)(neg:Bool):Rn (Qh 0 true true false false 0 o63 port (AK neg 2 pos size mask lo hi)) ((.bool neg, .cells false gl),[Qi o63 (AK neg 2 pos size mask lo hi),Ch lo (IntKind.wrap .u64 port) true,Ch (IntKind.wrap .u64 port) hi false]):=by
 cases neg<;>exact⟨by kernel_rfl,by kernel_rfl⟩
theorem kQ(o63:CX)(port pos size mask lo hi:Int)(neg:Bool):Rn (Qh 0 true false false false 0 o63 port (AK neg 2 pos size mask lo hi)) ((.bool neg, .cells false gl),[Qi o63 (AK neg 2 pos size mask lo hi),Ch lo (IntKind.wrap .u64 port) false]):=by
 cases neg<;>exact⟨by kernel_rfl,by kernel_rfl⟩
theorem kR(o63:CX)(port pos size mask lo hi:Int)(neg:Bool):Rn (Qh 0 false false false false 0 o63 port (AK neg 3 pos size mask lo hi)) ((.bool neg, .cells false gl),[Qi o63 (AK neg 3 pos size mask lo hi),qt o63 (AK neg 3 pos size mask lo hi) pos size]):=by
 cases neg<;>exact⟨by kernel_rfl,by kernel_rfl⟩
theorem kS(o63:CX)(port pos size mask lo hi:Int)(neg:Bool):Rn (Qh 0 false false false true 0 o63 port (AK neg 4 pos size mask lo hi)) ((.bool neg, .cells false gl),[Qi o63 (AK neg 4 pos size mask lo hi),Ob 0 true]):=by
 cases neg<;>exact⟨by kernel_rfl,by kernel_rfl⟩
theorem TU:Y.callK Tryz.prog kp 1 200 5 [] (mG gl) (λv m=>some (v,m.get 0))=some (.bool true, .cells false gl):=by kernel_rfl
set_option maxHeartbeats 4000000
variable{α:Type}
theorem g8:Y.callK Tryz.prog kp 1 20 40 [.int .i64 1] (mG gl) (λv m=>some (v,m.get 0))=
 (some ((.int .u64 255),.cells false gl)):=by kernel_rfl
theorem gq:Y.callK Tryz.prog kp 1 20 34 [.int .i64 1] (mG gl) (λv m=>some (v,m.get 0))=
 (some ((.int .u64 255),.cells false gl)):=by kernel_rfl
theorem gi:Y.callK Tryz.prog kp 1 20 59 [.int .i64 1] (mG gl) (λv m=>some (v,m.get 0))=
 (some ((.int .u64 255),.cells false gl)):=by kernel_rfl
theorem g9:Y.callK Tryz.prog kp 1 20 40 [.int .i64 2] (mG gl) (λv m=>some (v,m.get 0))=
 (some ((.int .u64 65535),.cells false gl)):=by kernel_rfl
theorem gr:Y.callK Tryz.prog kp 1 20 34 [.int .i64 2] (mG gl) (λv m=>some (v,m.get 0))=
 (some ((.int .u64 65535),.cells false gl)):=by kernel_rfl
theorem gj:Y.callK Tryz.prog kp 1 20 59 [.int .i64 2] (mG gl) (λv m=>some (v,m.get 0))=
 (some ((.int .u64 65535),.cells false gl)):=by kernel_rfl
theorem ga:Y.callK Tryz.prog kp 1 20 40 [.int .i64 4] (mG gl) (λv m=>some (v,m.get 0))=
 (some ((.int .u64 4294967295),.cells false gl)):=by kernel_rfl
theorem gu:Y.callK Tryz.prog kp 1 20 34 [.int .i64 4] (mG gl) (λv m=>some (v,m.get 0))=
 (some ((.int .u64 4294967295),.cells false gl)):=by kernel_rfl
theorem gn:Y.callK Tryz.prog kp 1 20 59 [.int .i64 4] (mG gl) (λv m=>some (v,m.get 0))=
 (some ((.int .u64 4294967295),.cells false gl)):=by kernel_rfl
theorem gg:Y.callK Tryz.prog kp 1 20 40 [.int .i64 8] (mG gl) (λv m=>some (v,m.get 0))=
 (some ((.int .u64 18446744073709551615),.cells false gl)):=by kernel_rfl
theorem hP:Y.callK Tryz.prog kp 1 20 34 [.int .i64 8] (mG gl) (λv m=>some (v,m.get 0))=
 (some ((.int .u64 18446744073709551615),.cells false gl)):=by kernel_rfl
theorem gp:Y.callK Tryz.prog kp 1 20 59 [.int .i64 8] (mG gl) (λv m=>some (v,m.get 0))=
 (some ((.int .u64 18446744073709551615),.cells false gl)):=by kernel_rfl
theorem gh(n:Int):Y.callK Tryz.prog kp 1 20 41 [.int .u64 n] (mG gl) (λv m=>some (v,m.get 0))=
 (cond (Y.ltF n 2147483648) (some ((.bool true),.cells false gl)) (some ((.bool false),.cells false gl))):=by kernel_rfl
theorem Xc(im:Int):Y.callK Tryz.prog kp 1 20 65 [.agg ⟨[.int .i64 1,.int .i64 11,.int .i64 0,.bool true,.bool false]⟩,.agg ⟨[.int .u8 0,.int .u8 2,.int .u8 0,.int .i16 0,.int .i32 im]⟩] (mG gl) (λv m=>some (v,m.get 0))=
 (some ((.tuple ⟨[.agg ⟨[.int .u8 183,.int .u8 2,.int .u8 0,.int .i16 0,.int .i32 im]⟩,.int .i64 0]⟩),.cells false gl)):=by kernel_rfl
theorem RM(im:Int):Y.callK Tryz.prog kp 1 20 65 [.agg ⟨[.int .i64 1,.int .i64 11,.int .i64 0,.bool true,.bool false]⟩,.agg ⟨[.int .u8 0,.int .u8 3,.int .u8 0,.int .i16 0,.int .i32 im]⟩] (mG gl) (λv m=>some (v,m.get 0))=
 (some ((.tuple ⟨[.agg ⟨[.int .u8 183,.int .u8 3,.int .u8 0,.int .i16 0,.int .i32 im]⟩,.int .i64 0]⟩),.cells false gl)):=by kernel_rfl
theorem Zl(im:Int):Y.callK Tryz.prog kp 1 20 65 [.agg ⟨[.int .i64 1,.int .i64 5,.int .i64 0,.bool true,.bool false]⟩,.agg ⟨[.int .u8 0,.int .u8 2,.int .u8 0,.int .i16 0,.int .i32 im]⟩] (mG gl) (λv m=>some (v,m.get 0))=
 (some ((.tuple ⟨[.agg ⟨[.int .u8 87,.int .u8 2,.int .u8 0,.int .i16 0,.int .i32 im]⟩,.int .i64 0]⟩),.cells false gl)):=by kernel_rfl
theorem RN:Y.callK Tryz.prog kp 1 20 65 [.agg ⟨[.int .i64 1,.int .i64 11,.int .i64 0,.bool true,.bool true]⟩,.agg ⟨[.int .u8 0,.int .u8 6,.int .u8 1,.int .i16 0,.int .i32 0]⟩] (mG gl) (λv m=>some (v,m.get 0))=
 (some ((.tuple ⟨[.agg ⟨[.int .u8 191,.int .u8 6,.int .u8 1,.int .i16 0,.int .i32 0]⟩,.int .i64 0]⟩),.cells false gl)):=by kernel_rfl
theorem RO:Y.callK Tryz.prog kp 1 20 65 [.agg ⟨[.int .i64 1,.int .i64 11,.int .i64 0,.bool true,.bool true]⟩,.agg ⟨[.int .u8 0,.int .u8 2,.int .u8 8,.int .i16 0,.int .i32 0]⟩] (mG gl) (λv m=>some (v,m.get 0))=
 (some ((.tuple ⟨[.agg ⟨[.int .u8 191,.int .u8 2,.int .u8 8,.int .i16 0,.int .i32 0]⟩,.int .i64 0]⟩),.cells false gl)):=by kernel_rfl
theorem Xd:Y.callK Tryz.prog kp 1 20 65 [.agg ⟨[.int .i64 1,.int .i64 5,.int .i64 0,.bool true,.bool true]⟩,.agg ⟨[.int .u8 0,.int .u8 2,.int .u8 3,.int .i16 0,.int .i32 0]⟩] (mG gl) (λv m=>some (v,m.get 0))=
 (some ((.tuple ⟨[.agg ⟨[.int .u8 95,.int .u8 2,.int .u8 3,.int .i16 0,.int .i32 0]⟩,.int .i64 0]⟩),.cells false gl)):=by kernel_rfl
theorem gR(im:Int):Y.callK Tryz.prog kp 1 20 65 [.agg ⟨[.int .i64 1,.int .i64 11,.int .i64 0,.bool false,.bool false]⟩,.agg ⟨[.int .u8 0,.int .u8 0,.int .u8 0,.int .i16 0,.int .i32 im]⟩] (mG gl) (λv m=>some (v,m.get 0))=
 (some ((.tuple ⟨[.agg ⟨[.int .u8 180,.int .u8 0,.int .u8 0,.int .i16 0,.int .i32 im]⟩,.int .i64 0]⟩),.cells false gl)):=by kernel_rfl
theorem Zm:Y.callK Tryz.prog kp 1 20 65 [.agg ⟨[.int .i64 9,.int .i64 0,.int .i64 0,.bool false,.bool false]⟩,.agg ⟨[.int .u8 0,.int .u8 0,.int .u8 0,.int .i16 0,.int .i32 0]⟩] (mG gl) (λv m=>some (v,m.get 0))=
 (some ((.tuple ⟨[.agg ⟨[.int .u8 149,.int .u8 0,.int .u8 0,.int .i16 0,.int .i32 0]⟩,.int .i64 0]⟩),.cells false gl)):=by kernel_rfl
theorem Xe(im:Int):Y.callK Tryz.prog kp 1 20 65 [.agg ⟨[.int .i64 10,.int .i64 0,.int .i64 0,.bool false,.bool false]⟩,.agg ⟨[.int .u8 0,.int .u8 3,.int .u8 0,.int .i16 0,.int .i32 im]⟩] (mG gl) (λv m=>some (v,m.get 0))=
 (some ((.tuple ⟨[.agg ⟨[.int .u8 24,.int .u8 3,.int .u8 0,.int .i16 0,.int .i32 im]⟩,.int .i64 0]⟩),.cells false gl)):=by kernel_rfl
theorem Zn(of:Int):Y.callK Tryz.prog kp 1 20 65 [.agg ⟨[.int .i64 3,.int .i64 0,.int .i64 4,.bool false,.bool false]⟩,.agg ⟨[.int .u8 0,.int .u8 8,.int .u8 6,.int .i16 of,.int .i32 0]⟩] (mG gl) (λv m=>some (v,m.get 0))=
 (some ((.tuple ⟨[.agg ⟨[.int .u8 97,.int .u8 8,.int .u8 6,.int .i16 of,.int .i32 0]⟩,.int .i64 0]⟩),.cells false gl)):=by kernel_rfl
theorem Zo(of:Int):Y.callK Tryz.prog kp 1 20 65 [.agg ⟨[.int .i64 3,.int .i64 0,.int .i64 4,.bool false,.bool false]⟩,.agg ⟨[.int .u8 0,.int .u8 2,.int .u8 6,.int .i16 of,.int .i32 0]⟩] (mG gl) (λv m=>some (v,m.get 0))=
 (some ((.tuple ⟨[.agg ⟨[.int .u8 97,.int .u8 2,.int .u8 6,.int .i16 of,.int .i32 0]⟩,.int .i64 0]⟩),.cells false gl)):=by kernel_rfl
theorem gS(of:Int):Y.callK Tryz.prog kp 1 20 65 [.agg ⟨[.int .i64 3,.int .i64 0,.int .i64 8,.bool false,.bool false]⟩,.agg ⟨[.int .u8 0,.int .u8 7,.int .u8 1,.int .i16 of,.int .i32 0]⟩] (mG gl) (λv m=>some (v,m.get 0))=
 (some ((.tuple ⟨[.agg ⟨[.int .u8 121,.int .u8 7,.int .u8 1,.int .i16 of,.int .i32 0]⟩,.int .i64 0]⟩),.cells false gl)):=by kernel_rfl
theorem Xf(of:Int):Y.callK Tryz.prog kp 1 20 65 [.agg ⟨[.int .i64 3,.int .i64 0,.int .i64 1,.bool false,.bool false]⟩,.agg ⟨[.int .u8 0,.int .u8 2,.int .u8 7,.int .i16 of,.int .i32 0]⟩] (mG gl) (λv m=>some (v,m.get 0))=
 (some ((.tuple ⟨[.agg ⟨[.int .u8 113,.int .u8 2,.int .u8 7,.int .i16 of,.int .i32 0]⟩,.int .i64 0]⟩),.cells false gl)):=by kernel_rfl
theorem Xg(of:Int):Y.callK Tryz.prog kp 1 20 65 [.agg ⟨[.int .i64 3,.int .i64 0,.int .i64 2,.bool false,.bool false]⟩,.agg ⟨[.int .u8 0,.int .u8 2,.int .u8 7,.int .i16 of,.int .i32 0]⟩] (mG gl) (λv m=>some (v,m.get 0))=
 (some ((.tuple ⟨[.agg ⟨[.int .u8 105,.int .u8 2,.int .u8 7,.int .i16 of,.int .i32 0]⟩,.int .i64 0]⟩),.cells false gl)):=by kernel_rfl
theorem Xh(of:Int):Y.callK Tryz.prog kp 1 20 65 [.agg ⟨[.int .i64 3,.int .i64 0,.int .i64 4,.bool false,.bool false]⟩,.agg ⟨[.int .u8 0,.int .u8 2,.int .u8 7,.int .i16 of,.int .i32 0]⟩] (mG gl) (λv m=>some (v,m.get 0))=
 (some ((.tuple ⟨[.agg ⟨[.int .u8 97,.int .u8 2,.int .u8 7,.int .i16 of,.int .i32 0]⟩,.int .i64 0]⟩),.cells false gl)):=by kernel_rfl
theorem Xi(of:Int):Y.callK Tryz.prog kp 1 20 65 [.agg ⟨[.int .i64 3,.int .i64 0,.int .i64 8,.bool false,.bool false]⟩,.agg ⟨[.int .u8 0,.int .u8 2,.int .u8 7,.int .i16 of,.int .i32 0]⟩] (mG gl) (λv m=>some (v,m.get 0))=
 (some ((.tuple ⟨[.agg ⟨[.int .u8 121,.int .u8 2,.int .u8 7,.int .i16 of,.int .i32 0]⟩,.int .i64 0]⟩),.cells false gl)):=by kernel_rfl
theorem gT(im:Int):Y.callK Tryz.prog kp 1 20 65 [.agg ⟨[.int .i64 6,.int .i64 3,.int .i64 0,.bool true,.bool false]⟩,.agg ⟨[.int .u8 0,.int .u8 8,.int .u8 0,.int .i16 0,.int .i32 im]⟩] (mG gl) (λv m=>some (v,m.get 0))=
 (some ((.tuple ⟨[.agg ⟨[.int .u8 53,.int .u8 8,.int .u8 0,.int .i16 0,.int .i32 im]⟩,.int .i64 0]⟩),.cells false gl)):=by kernel_rfl
theorem gU(im:Int):Y.callK Tryz.prog kp 1 20 65 [.agg ⟨[.int .i64 6,.int .i64 5,.int .i64 0,.bool true,.bool false]⟩,.agg ⟨[.int .u8 0,.int .u8 2,.int .u8 0,.int .i16 0,.int .i32 im]⟩] (mG gl) (λv m=>some (v,m.get 0))=
 (some ((.tuple ⟨[.agg ⟨[.int .u8 85,.int .u8 2,.int .u8 0,.int .i16 0,.int .i32 im]⟩,.int .i64 0]⟩),.cells false gl)):=by kernel_rfl
theorem Zp(im:Int):Y.callK Tryz.prog kp 1 20 65 [.agg ⟨[.int .i64 6,.int .i64 10,.int .i64 0,.bool true,.bool false]⟩,.agg ⟨[.int .u8 0,.int .u8 2,.int .u8 0,.int .i16 0,.int .i32 im]⟩] (mG gl) (λv m=>some (v,m.get 0))=
 (some ((.tuple ⟨[.agg ⟨[.int .u8 165,.int .u8 2,.int .u8 0,.int .i16 0,.int .i32 im]⟩,.int .i64 0]⟩),.cells false gl)):=by kernel_rfl
theorem gV(im:Int):Y.callK Tryz.prog kp 1 20 65 [.agg ⟨[.int .i64 6,.int .i64 2,.int .i64 0,.bool true,.bool false]⟩,.agg ⟨[.int .u8 0,.int .u8 2,.int .u8 0,.int .i16 0,.int .i32 im]⟩] (mG gl) (λv m=>some (v,m.get 0))=
 (some ((.tuple ⟨[.agg ⟨[.int .u8 37,.int .u8 2,.int .u8 0,.int .i16 0,.int .i32 im]⟩,.int .i64 0]⟩),.cells false gl)):=by kernel_rfl
theorem Xj:Y.callK Tryz.prog kp 1 20 65 [.agg ⟨[.int .i64 6,.int .i64 10,.int .i64 0,.bool true,.bool true]⟩,.agg ⟨[.int .u8 0,.int .u8 2,.int .u8 3,.int .i16 0,.int .i32 0]⟩] (mG gl) (λv m=>some (v,m.get 0))=
 (some ((.tuple ⟨[.agg ⟨[.int .u8 173,.int .u8 2,.int .u8 3,.int .i16 0,.int .i32 0]⟩,.int .i64 0]⟩),.cells false gl)):=by kernel_rfl
theorem Zq:Y.callK Tryz.prog kp 1 20 65 [.agg ⟨[.int .i64 6,.int .i64 2,.int .i64 0,.bool true,.bool true]⟩,.agg ⟨[.int .u8 0,.int .u8 2,.int .u8 3,.int .i16 0,.int .i32 0]⟩] (mG gl) (λv m=>some (v,m.get 0))=
 (some ((.tuple ⟨[.agg ⟨[.int .u8 45,.int .u8 2,.int .u8 3,.int .i16 0,.int .i32 0]⟩,.int .i64 0]⟩),.cells false gl)):=by kernel_rfl
theorem Zr:Y.callK Tryz.prog kp 1 20 65 [.agg ⟨[.int .i64 7,.int .i64 0,.int .i64 0,.bool false,.bool false]⟩,.agg ⟨[.int .u8 0,.int .u8 0,.int .u8 0,.int .i16 0,.int .i32 0]⟩] (mG gl) (λv m=>some (v,m.get 0))=
 (some ((.tuple ⟨[.agg ⟨[.int .u8 5,.int .u8 0,.int .u8 0,.int .i16 0,.int .i32 0]⟩,.int .i64 0]⟩),.cells false gl)):=by kernel_rfl
theorem gW:Y.callK Tryz.prog kp 1 20 65 [.agg ⟨[.int .i64 2,.int .i64 0,.int .i64 2,.bool false,.bool false]⟩,.agg ⟨[.int .u8 0,.int .u8 2,.int .u8 0,.int .i16 0,.int .i32 0]⟩] (mG gl) (λv m=>some (v,m.get 0))=
 (some ((.tuple ⟨[.agg ⟨[.int .u8 215,.int .u8 2,.int .u8 0,.int .i16 0,.int .i32 16]⟩,.int .i64 0]⟩),.cells false gl)):=by kernel_rfl
theorem gX:Y.callK Tryz.prog kp 1 20 65 [.agg ⟨[.int .i64 2,.int .i64 0,.int .i64 4,.bool false,.bool false]⟩,.agg ⟨[.int .u8 0,.int .u8 2,.int .u8 0,.int .i16 0,.int .i32 0]⟩] (mG gl) (λv m=>some (v,m.get 0))=
 (some ((.tuple ⟨[.agg ⟨[.int .u8 215,.int .u8 2,.int .u8 0,.int .i16 0,.int .i32 32]⟩,.int .i64 0]⟩),.cells false gl)):=by kernel_rfl
theorem gY:Y.callK Tryz.prog kp 1 20 65 [.agg ⟨[.int .i64 2,.int .i64 0,.int .i64 8,.bool false,.bool false]⟩,.agg ⟨[.int .u8 0,.int .u8 2,.int .u8 0,.int .i16 0,.int .i32 0]⟩] (mG gl) (λv m=>some (v,m.get 0))=
 (some ((.tuple ⟨[.agg ⟨[.int .u8 215,.int .u8 2,.int .u8 0,.int .i16 0,.int .i32 64]⟩,.int .i64 0]⟩),.cells false gl)):=by kernel_rfl
end
end Go.Proofs.YtgjflcgmieiafaaGreatDoor
