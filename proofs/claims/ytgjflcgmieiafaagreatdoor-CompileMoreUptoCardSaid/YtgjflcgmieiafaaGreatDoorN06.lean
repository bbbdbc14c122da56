/- CompileMore answers true: rules behind one that matches say nothing, for any table, other table, packet and port of the stated bulk. Conditions: those of the given row and its card (the variable insn.sizes is laid as its initialiser says; bulk at most 1048576). -/
import Derived.Test.YtgjflcgmieiafaaGreatDoorN05
import Derived.Test.YtgjflcgmieiafaaGreatDoorN02
import Derived.OrdersIn
import Derived.TacticsIn
import Derived.RangeFuncCalls
import Derived.RangeFuncWrites
import Derived.Test.YtgjflcgmieiafaaGreatDoorN04
import Derived.RangeFuncLeaves
import Derived.Test.YtgjflcgmieiafaaGreatDoorN03
import Derived.Shelf.Abstract
set_option linter.all false
set_option linter.unusedVariables false
set_option linter.unusedSimpArgs false
namespace Go.Proofs.YtgjflcgmieiafaaGreatDoor
open Go Go.DI Go.DI.Kit Go.Proofs Go.Cmp
noncomputable section
abbrev YF:EV:=CG Tryz.prog kp 1 oX 20
theorem ov:List.drop 6 (items S3)=WI::List.drop 7 (items S3):=by kernel_rfl
theorem LZ{args:List Value}{M0 M1 M2 M3:Mem}{t1 t2 t3:AF}{vs:List Value}(hn:args.length=5)
  (h1:AI Tryz.prog kp 1 YF (AV Tryz.prog kp 1 YF 84) 84 600 (DM ((items S3).take 6)) (AB 84 (Bv args)) M0=some (.normal,t1,M1))
  (h2:BT (WK 600) 600 t1 M1=some (.exit 0,t2,M2))
  (h3:AI Tryz.prog kp 1 YF (AV Tryz.prog kp 1 YF 84) 84 600 (DM ((items S3).drop 7)) t2 M2=some (.ret,t3,M3)) (h4:DK Tryz.prog t3 M3 Tryz.f15.results.toList=some vs):
  Cu Tryz.prog kp 1 YF 600 15 args M0=some (F6 vs,M3):=by
 have hm:max args.length Tryz.f15.ntmps=84:=by rw[wu,hn];rfl
 have key:AI Tryz.prog kp 1 YF (AV Tryz.prog kp 1 YF 84) 84 600 S3 (AB 84 (Bv args)) M0=some (.ret,t3,M3):=by
  rw[IK S3,←List.take_append_drop 6 (items S3),FH,←CI,h1];simp only;rw[ov]
  have hb:AI Tryz.prog kp 1 YF (AV Tryz.prog kp 1 YF 84) 84 600 WI t1 M1=some (.normal,t2,M2):=by
   rw[bR];simp only[AI];rw[h2];rfl
  simp only[G8,hb];rw[←CI,h3]
 unfold Cu
 rw[wm]
 simp only
 rw[wq]
 simp only
 rw[hm,key]
 simp only[Tt,h4]
theorem Nx{L:List Value}{P:Option (List Value)}(f:FuncId)(v:Value)(args:List Value)(m:Mem)(hc:(hA L P).call f=some v)(hs:(hA L P).says f args m v):oX f args m=some (v,(hA L P).eff f m):=by
 by_cases e:f=28
 ·subst e;exact hs.elim
 ·have e1:Nat.beq f 28=false:=by cases hb:Nat.beq f 28 with
   |false=>rfl
   |true=>exact absurd (Nat.eq_of_beq_eq_true hb) e
  unfold H.Hint.says at hs;have:(hA L P).specM f=some λargs m v=>di f args m=some (v,m):=by show cond (Nat.beq f 28) _ _=_;rw[e1];rfl
  rw[this]at hs;rw[lP e];exact hs
theorem L2{L:List Value}{P:Option (List Value)}(f:FuncId)(hc:(hA L P).call f=none)(a:List Value)(m:Mem):oX f a m=none:=
 UJ (by rintro rfl;cases hc) (by rintro rfl;cases hc) a m
theorem bX{P:Option (List Value)}(f:FuncId)(v:Value)(args:List Value)(m:Mem)(hc:(hT P).call f=some v)(hs:(hT P).says f args m v):oX f args m=some (v,(hT P).eff f m):=by
 exfalso
 unfold H.Hint.says at hs
 cases hq:(hT P).specM f with
 |none=>rw[hq]at hs;exact hs
 |some g=>
  rw[hq]at hs;have hq:cond (Nat.beq f 28) (some never) none=some g:=hq;cases hb:Nat.beq f 28<;>rw[hb]at hq
  ·cases hq
  ·cases hq;exact hs
theorem UM{P:Option (List Value)}(f:FuncId)(hc:(hT P).call f=none)(a:List Value)(m:Mem):oX f a m=none:=
 UJ (by rintro rfl;cases hc) (by rintro rfl;cases hc) a m
structure Lp(l:List B9)(pk:List Int)(port v:Int):Prop where
 shape:DY l
 bytes:∀b∈pk,0<=b/\b<256
 len:pk.length<=65535
 prt:0<=port/\port<4294967296
 runs:∃pc n r,JX l pk port n 0 Dn pc r/\l[pc]?=some DS/\r 0= .num v/\n<l.length
theorem UN:Ge Dn:=by
 intro i n h
 unfold Dn at h
 split at h<;>simp_all
section
variable{l:List B9}{pk:List Int}{port v:Int}{o1 o2:Bool}
theorem EJ(ss:List BI):(mS gl ss).top:=λj hj=>by
 have e:(mS gl ss).size=1+ss.length:=by unfold mS;rw[Cm,mG_size]
 rw[e]at hj
 have:=CM ss (mG gl) j
 unfold mS
 rw[this,mG_size,if_neg (by omega),List.getElem?_eq_none (by omega)]
 exact mG_top gl j (by rw[mG_size];omega)
theorem UO(h:DY l)(own:Bool)(ss:List BI):s3 l.length port (.cells own (AE l)::ss):=by
 have e0:∀ss':List BI,(mS gl (.cells own (AE l)::ss')).get 0= .cells false gl:=λss'=>by
  have:=CM (.cells own (AE l)::ss') (mG gl) 0;unfold mS;rw[this,mG_size,if_pos (by decide),mG_get]
 have e1:∀ss':List BI,(mS gl (.cells own (AE l)::ss')).get 1= .cells own (AE l):=λss'=>by
  have:=CM (.cells own (AE l)::ss') (mG gl) 1;unfold mS;rw[this,mG_size,if_neg (by decide)];rfl
 have ez:∀ss':List BI,1< (mS gl (.cells own (AE l)::ss')).size:=λss'=>by
  unfold mS;rw[Cm,mG_size,List.length_cons];omega
 unfold s3
 rw[List.cons_append]
 refine if_pos ⟨rfl,1,rfl,?_,WG (o1:=own) (l:=l) (EJ _) (e0 _) (Nat.le_of_lt (ez _)) (ez _) (by decide) (e1 _)⟩
 rw[e1]
 exact⟨own,l,rfl,rfl,rfl,h⟩
theorem UP{n:Nat}(h:n<=65535):sZ n:=by
 unfold sZ
 simp[B6,Ba,Bc];omega
theorem Q8:bP:=by unfold bP;simp[B6,Ba,Bc]
theorem s9(hR:Lp l pk port v)(hne:pk≠ []):
  ∃pc st regs,Cu Tryz.prog kp 1 YF 600 15 (Fk l.length (Gp 5 pk.length (some 1)) port) (mS gl (OV o1 o2 (AE l) (AN pk) l.length))=
   some (.tuple ⟨[.agg ⟨JB pc v st (Gp 21 pk.length (some 1))⟩, .int .i64 0]⟩,mS gl (OV o1 o2 (AE l) (AN pk) l.length++ie (AE l) (AN pk) l.length pk.length port 6 (AO regs) pc st v)):=by
 obtain⟨pc,n,rf,hrun,hx,hv,hn⟩:=hR.runs
 obtain⟨q1,q2⟩:=o7 o1 o2 (AE l) (AN pk) l.length pk.length port
 obtain⟨e,t1,M1,a1,a2⟩:=H.codeO_H (H:=hA (AE l) (some (AN pk))) (o:=oX) (P:=Tryz.prog) (K:=kp) (G:=1) (j:=20) (n:=84) (k:=600) (c:=DM ((items S3).take 6)) (t:=AB 84 (Bv (Fk l.length (Gp 5 pk.length (some 1)) port))) (m:=mS gl (OV o1 o2 (AE l) (AN pk) l.length)) (g:=λe t m=>(e,t,m)) Nx L2 q1 q2 (by
  intro q hq;simp only[List.mem_cons,List.not_mem_nil,or_false]at hq;rcases hq with rfl|rfl|rfl|rfl|rfl
  ·exact UO hR.shape o1 _
  ·exact UP hR.len
  ·exact Js hne hR.len
  ·exact L3 hR.shape.pos hR.shape.most
  ·exact Q8)
 have e1:e=_:=congrArg (λx=>x.1) a2
 have e2:t1=_:=congrArg (λx=>x.2.1) a2
 have e3:M1=_:=congrArg (λx=>x.2.2) a2
 simp only at e1 e2 e3
 have hM:LY M1 14 17 13 11 15 18 19 l pk:=by
  rw[e3];have hz:(mS gl (OV o1 o2 (AE l) (AN pk) l.length++o6 (AE l) (AN pk) l.length pk.length port 6 (AO Dn) 0 0 false)).size=20:=by kernel_rfl
  refine⟨EJ _,by kernel_rfl,by rw[hz];decide,?_,by decide,by decide,by kernel_rfl,by kernel_rfl,by kernel_rfl,by kernel_rfl,by kernel_rfl,by kernel_rfl⟩;intro b hb;rw[hz]
  revert b
  decide
 have hg:M1.get 14=FO 15 17 11 13 18 19 l.length pk.length (some 1) port (AO Dn) ((0:Nat):Int) ((0:Nat):Int) false:=by rw[e3];kernel_rfl
 have hf:∃x,t1=AB 84 (up x (OY 8 14)):=⟨up (Bv (Fk l.length (Gp 5 pk.length (some 1)) port)) (qu 6 14 (Es (A6 1 l.length)) (Gp 5 pk.length (some 1)) (UI port)),by rw[e2];kernel_rfl⟩
 obtain⟨x,hf⟩:=hf
 have hm:=hR.shape.most
 have hn1:n+0<512:=by omega
 have hn2:n+2<=600:=by omega
 obtain⟨-,x',b1⟩:=Q7 (z:=8) hR.bytes (by have:=hR.len;omega) hR.prt hm hrun hx hv (st:=0) 600 600 x hn1 hn2 UN hM hg
 obtain⟨c1,c2⟩:=oo x' o1 o2 (AE l) (AN pk) l.length pk.length port rf (pc:Int) ((0+n+1:Nat):Int)
 obtain⟨e',t3,M3,d1,d2⟩:=H.codeO_H (H:=hT (some (AN pk))) (o:=oX) (P:=Tryz.prog) (K:=kp) (G:=1) (j:=20) (n:=84) (k:=600) (c:=DM ((items S3).drop 7)) (t:=AB 84 (up x' (OY 8 14))) (g:=λe t m=>(e,DK Tryz.prog t m Tryz.f15.results.toList,m)) bX UM c1 c2 (by
  intro q hq;obtain rfl:=List.mem_singleton.1 hq;exact Js hne hR.len)
 have f1:e'=_:=congrArg (λx=>x.1) d2
 have f2:DK Tryz.prog t3 M3 Tryz.f15.results.toList=_:=congrArg (λx=>x.2.1) d2
 have f3:M3=_:=congrArg (λx=>x.2.2) d2
 simp only at f1 f3
 have hnv:nv (rf 0)=v:=by rw[hv];rfl
 rw[e1]at a1
 rw[f1]at d1
 rw[hf]at a1
 rw[←e3]at d1
 refine⟨(pc:Int),((0+n+1:Nat):Int),rf,(LZ rfl a1 b1 d1 f2).trans ?_⟩
 rw[f3,hnv]
 kernel_rfl
theorem sd(hR:Lp l [] port v):
  ∃pc st regs,Cu Tryz.prog kp 1 YF 600 15 (Fk l.length (Gp 4 0 none) port) (mS gl (OW o1 o2 (AE l) l.length))=
   some (.tuple ⟨[.agg ⟨JB pc v st (Gp 18 0 none)⟩, .int .i64 0]⟩,mS gl (OW o1 o2 (AE l) l.length++S5 (AE l) l.length port 5 (AO regs) pc st v)):=by
 obtain⟨pc,n,rf,hrun,hx,hv,hn⟩:=hR.runs
 obtain⟨q1,q2⟩:=oc o1 o2 (AE l) l.length port
 obtain⟨e,t1,M1,a1,a2⟩:=H.codeO_H (H:=hA (AE l) none) (o:=oX) (P:=Tryz.prog) (K:=kp) (G:=1) (j:=20) (n:=84) (k:=600) (c:=DM ((items S3).take 6)) (t:=AB 84 (Bv (Fk l.length (Gp 4 0 none) port))) (m:=mS gl (OW o1 o2 (AE l) l.length)) (g:=λe t m=>(e,t,m)) Nx L2 q1 q2 (by
  intro q hq;simp only[List.mem_cons,List.not_mem_nil,or_false]at hq;rcases hq with rfl|rfl|rfl|rfl
  ·exact UO hR.shape o1 _
  ·exact UP hR.len
  ·exact L3 hR.shape.pos hR.shape.most
  ·exact Q8)
 have e1:e=_:=congrArg (λx=>x.1) a2
 have e2:t1=_:=congrArg (λx=>x.2.1) a2
 have e3:M1=_:=congrArg (λx=>x.2.2) a2
 simp only at e1 e2 e3
 have hM:LY M1 12 15 11 10 13 16 17 l []:=by
  rw[e3];have hz:(mS gl (OW o1 o2 (AE l) l.length++YE (AE l) l.length port 5 (AO Dn) 0 0 false)).size=18:=by kernel_rfl
  refine⟨EJ _,by kernel_rfl,by rw[hz];decide,?_,by decide,by decide,by kernel_rfl,by kernel_rfl,by kernel_rfl,by kernel_rfl,by kernel_rfl,by kernel_rfl⟩;intro b hb;rw[hz]
  revert b
  decide
 have hg:M1.get 12=FO 13 15 10 11 16 17 l.length ([]:List Int).length none port (AO Dn) ((0:Nat):Int) ((0:Nat):Int) false:=by rw[e3];kernel_rfl
 have hf:∃x,t1=AB 84 (up x (OY 7 12)):=⟨up (Bv (Fk l.length (Gp 4 0 none) port)) (qu 5 12 (Es (A6 1 l.length)) (Gp 4 0 none) (UI port)),by rw[e2];kernel_rfl⟩
 obtain⟨x,hf⟩:=hf
 have hm:=hR.shape.most
 have hn1:n+0<512:=by omega
 have hn2:n+2<=600:=by omega
 obtain⟨-,x',b1⟩:=Q7 (z:=7) hR.bytes (by have:=hR.len;omega) hR.prt hm hrun hx hv (st:=0) 600 600 x hn1 hn2 UN hM hg
 obtain⟨c1,c2⟩:=oq x' o1 o2 (AE l) l.length port rf (pc:Int) ((0+n+1:Nat):Int)
 obtain⟨e',t3,M3,d1,d2⟩:=H.codeO_H (H:=hT none) (o:=oX) (P:=Tryz.prog) (K:=kp) (G:=1) (j:=20) (n:=84) (k:=600) (c:=DM ((items S3).drop 7)) (t:=AB 84 (up x' (OY 7 12))) (g:=λe t m=>(e,DK Tryz.prog t m Tryz.f15.results.toList,m)) bX UM c1 c2 (by simp)
 have f1:e'=_:=congrArg (λx=>x.1) d2
 have f2:DK Tryz.prog t3 M3 Tryz.f15.results.toList=_:=congrArg (λx=>x.2.1) d2
 have f3:M3=_:=congrArg (λx=>x.2.2) d2
 simp only at f1 f3
 have hnv:nv (rf 0)=v:=by rw[hv];rfl
 rw[e1]at a1
 rw[f1]at d1
 rw[hf]at a1
 rw[←e3]at d1
 refine⟨(pc:Int),((0+n+1:Nat):Int),rf,(LZ rfl a1 b1 d1 f2).trans ?_⟩
 rw[f3,hnv]
 kernel_rfl
theorem se(hR:Lp l [] port v):
  ∃pc st regs,Cu Tryz.prog kp 1 YF 600 15 (Fk l.length (Gp 3 0 none) port) (mS gl (OX o1 (AE l) l.length))=
   some (.tuple ⟨[.agg ⟨JB pc v st (Gp 17 0 none)⟩, .int .i64 0]⟩,mS gl (OX o1 (AE l) l.length++S5 (AE l) l.length port 4 (AO regs) pc st v)):=by
 obtain⟨pc,n,rf,hrun,hx,hv,hn⟩:=hR.runs
 obtain⟨q1,q2⟩:=od o1 (AE l) l.length port
 obtain⟨e,t1,M1,a1,a2⟩:=H.codeO_H (H:=hA (AE l) none) (o:=oX) (P:=Tryz.prog) (K:=kp) (G:=1) (j:=20) (n:=84) (k:=600) (c:=DM ((items S3).take 6)) (t:=AB 84 (Bv (Fk l.length (Gp 3 0 none) port))) (m:=mS gl (OX o1 (AE l) l.length)) (g:=λe t m=>(e,t,m)) Nx L2 q1 q2 (by
  intro q hq;simp only[List.mem_cons,List.not_mem_nil,or_false]at hq;rcases hq with rfl|rfl|rfl|rfl
  ·exact UO hR.shape o1 _
  ·exact UP hR.len
  ·exact L3 hR.shape.pos hR.shape.most
  ·exact Q8)
 have e1:e=_:=congrArg (λx=>x.1) a2
 have e2:t1=_:=congrArg (λx=>x.2.1) a2
 have e3:M1=_:=congrArg (λx=>x.2.2) a2
 simp only at e1 e2 e3
 have hM:LY M1 11 14 10 9 12 15 16 l []:=by
  rw[e3];have hz:(mS gl (OX o1 (AE l) l.length++YE (AE l) l.length port 4 (AO Dn) 0 0 false)).size=17:=by kernel_rfl
  refine⟨EJ _,by kernel_rfl,by rw[hz];decide,?_,by decide,by decide,by kernel_rfl,by kernel_rfl,by kernel_rfl,by kernel_rfl,by kernel_rfl,by kernel_rfl⟩;intro b hb;rw[hz]
  revert b
  decide
 have hg:M1.get 11=FO 12 14 9 10 15 16 l.length ([]:List Int).length none port (AO Dn) ((0:Nat):Int) ((0:Nat):Int) false:=by rw[e3];kernel_rfl
 have hf:∃x,t1=AB 84 (up x (OY 6 11)):=⟨up (Bv (Fk l.length (Gp 3 0 none) port)) (qu 4 11 (Es (A6 1 l.length)) (Gp 3 0 none) (UI port)),by rw[e2];kernel_rfl⟩
 obtain⟨x,hf⟩:=hf
 have hm:=hR.shape.most
 have hn1:n+0<512:=by omega
 have hn2:n+2<=600:=by omega
 obtain⟨-,x',b1⟩:=Q7 (z:=6) hR.bytes (by have:=hR.len;omega) hR.prt hm hrun hx hv (st:=0) 600 600 x hn1 hn2 UN hM hg
 obtain⟨c1,c2⟩:=ou x' o1 (AE l) l.length port rf (pc:Int) ((0+n+1:Nat):Int)
 obtain⟨e',t3,M3,d1,d2⟩:=H.codeO_H (H:=hT none) (o:=oX) (P:=Tryz.prog) (K:=kp) (G:=1) (j:=20) (n:=84) (k:=600) (c:=DM ((items S3).drop 7)) (t:=AB 84 (up x' (OY 6 11))) (g:=λe t m=>(e,DK Tryz.prog t m Tryz.f15.results.toList,m)) bX UM c1 c2 (by simp)
 have f1:e'=_:=congrArg (λx=>x.1) d2
 have f2:DK Tryz.prog t3 M3 Tryz.f15.results.toList=_:=congrArg (λx=>x.2.1) d2
 have f3:M3=_:=congrArg (λx=>x.2.2) d2
 simp only at f1 f3
 have hnv:nv (rf 0)=v:=by rw[hv];rfl
 rw[e1]at a1
 rw[f1]at d1
 rw[hf]at a1
 rw[←e3]at d1
 refine⟨(pc:Int),((0+n+1:Nat):Int),rf,(LZ rfl a1 b1 d1 f2).trans ?_⟩
 rw[f3,hnv]
 kernel_rfl
end
noncomputable def oE:C1:=λf a M=>if f=15 then Cu Tryz.prog kp 1 YF 600 15 a M else none
noncomputable def hJ(P:Option (List Value))(e:List Value)(new:List BI)(s:ByteArray):H.Hint where
 ix _:=false
 ld _ _ _:=none
 cmp op t:=cond (Nat.beq t 9) (BinOp.rec (motive:=λ_=>Option Bool) none none none none none none none none none none none (some true) none none none none none op) none
 ap t:=cond (Nat.beq t 23) P none
 call f:=cond (Nat.beq f 15) (some (.tuple ⟨[.agg ⟨e⟩, .int .i64 0]⟩)) none
 spec _ _ _ _:=False
 blk:=0
 eff _ m:=new.foldl Mem.push m
 specM _:=some λargs m v=>oE 15 args m=some (v,new.foldl Mem.push m)
 cv a b:=cond (Nat.beq a 23 && Nat.beq b 9) (some (.string s)) none
noncomputable def pL(P:Option (List Value))(e:List Value)(new:List BI)(s:ByteArray)(n:Nat)(pv:Value)(port:Int)(M:Mem):Option (H.TT (Value×BI×BI×BI)):=
 H.callT (hJ P e new s) Tryz.prog kp 1 20 9 [Es (A6 1 n),pv, .int .u32 port] M λv m=>some ((v,m.get 0,m.get 1,m.get 2),[],[])
noncomputable def xE(n:Nat)(pv:Value)(port:Int)(M:Mem)(e:List Value)(new:List BI):Prop:=oE 15 (Fk n pv port) M=some (.tuple ⟨[.agg ⟨e⟩, .int .i64 0]⟩,new.foldl Mem.push M)
noncomputable def lT(x:BI)(v:Value)(s:ByteArray):Prop:=H.cvOk Tryz.prog x 23 9 v (.string s)
noncomputable def u9(s:ByteArray):Prop:=B6 Tryz.prog kp .eql 9 (.string s) (.string s)=some (.bool true)
noncomputable def jv(v:Int):Value:= .tuple ⟨[.int .u64 v, .bool true]⟩
theorem pM(o1 o2:Bool)(L P:List Value)(n np cap:Nat)(sp:Option Nat)(port:Int)(regs:List Value)(pc st v:Int)(s:ByteArray):
  Rn (pL (some P) (JB pc v st (Gp 21 np (some 1))) (ie L P n np port 6 regs pc st v) s n (.slice (some ⟨2,0,sp⟩) np cap) port (mS gl [.cells o1 L, .cells o2 P])) ((jv v, .cells false gl, .cells o1 L, .cells o2 P),[H.apOk (.cells o2 P) 0 1 1 np P,xE n (Gp 5 np (some 1)) port (mS gl (OV o1 o2 L P n)) (JB pc v st (Gp 21 np (some 1))) (ie L P n np port 6 regs pc st v),lT (.cells true P) (Gp 21 np (some 1)) s,lT (.cells o2 P) (.slice (some ⟨2,0,sp⟩) np cap) s,u9 s]):=⟨by kernel_rfl,by kernel_rfl⟩
theorem pN(o1 o2:Bool)(L:List Value)(n cap:Nat)(sp:Option Nat)(port:Int)(regs:List Value)(pc st v:Int)(s:ByteArray):
  Rn (pL none (JB pc v st (Gp 18 0 none)) (S5 L n port 5 regs pc st v) s n (.slice (some ⟨2,0,sp⟩) 0 cap) port (mS gl [.cells o1 L, .cells o2 []])) ((jv v, .cells false gl, .cells o1 L, .cells o2 []),[xE n (Gp 4 0 none) port (mS gl (OW o1 o2 L n)) (JB pc v st (Gp 18 0 none)) (S5 L n port 5 regs pc st v),lT GR (Gp 18 0 none) s,lT (.cells o2 []) (.slice (some ⟨2,0,sp⟩) 0 cap) s,u9 s]):=⟨by kernel_rfl,by kernel_rfl⟩
theorem pO(o1:Bool)(L:List Value)(n:Nat)(port:Int)(regs:List Value)(pc st v:Int)(s:ByteArray):
  Rn (pL none (JB pc v st (Gp 17 0 none)) (S5 L n port 4 regs pc st v) s n (.slice none 0 0) port (mS gl [.cells o1 L])) ((jv v, .cells false gl, .cells o1 L, .cells true (IU (A6 1 n))),[xE n (Gp 3 0 none) port (mS gl (OX o1 L n)) (JB pc v st (Gp 17 0 none)) (S5 L n port 4 regs pc st v),lT GR (Gp 17 0 none) s,lT (.cells false gl) (.slice none 0 0) s,u9 s]):=⟨by kernel_rfl,by kernel_rfl⟩
theorem pP{f:FuncId}(h:f≠15)(a:List Value)(M:Mem):oE f a M=none:=if_neg h
theorem UR:B5 oE:=λf a M v M' h=>by
 unfold oE at h
 split at h
 case isFalse=>cases h
 rename_i e
 subst e
 exact Fz (CK Q6 20) 600 15 a M v M' h
theorem tJ(hW:E3)(B0:Nat):CR Tryz.prog B0 1 oE:=by
 have ih:=HJ Bu hK Ed (Co Bu hK Ed (s5 hW B0) Q6 20) (CK Q6 20) 600
 refine⟨λf a M v M' h=>(UR f a M v M' h).size,λf a M v M' h=>?_,λf a M v M' h=>?_⟩
 all_goals
  unfold oE at h;split at h
  case isFalse=>cases h
  rename_i e;subst e
 ·exact ih.ok _ _ _ _ _ h
 ·exact ih.body _ _ _ _ _ h
def L4(n n':Nat)(port:Int)(pv:Value)(ss:List BI):Option (Value×Mem):=
 CG Tryz.prog kp 1 oE 20 9 [.agg ⟨[.slice none 0 0, .slice (some ⟨1,0,some 5⟩) n n']⟩,pv, .int .u32 port] (mS gl ss)
open Classical in
noncomputable def bn:C1:=λf a M=>match a with
 | [.agg ⟨[.slice none 0 0, .slice (some ⟨c,0,some 5⟩) n n']⟩, .slice (some ⟨k,0,sp⟩) np cap, .int .u32 port]=>if f=9/\Fits gl [c,k] [M.get c,M.get k] M then
   (match L4 n n' port (.slice (some ⟨2,0,sp⟩) np cap) [M.get c,M.get k]with
    |some (.tuple ⟨[.int .u64 z, .bool b]⟩,m)=>if m.get 0= .cells false gl/\m.get 1=M.get c/\m.get 2=M.get k then some (.tuple ⟨[.int .u64 z, .bool b]⟩,M)else none
    |_=>none)else none
 | [.agg ⟨[.slice none 0 0, .slice (some ⟨c,0,some 5⟩) n n']⟩, .slice none 0 0, .int .u32 port]=>if f=9/\Fits gl [c] [M.get c] M then
   (match L4 n n' port (.slice none 0 0) [M.get c]with
    |some (.tuple ⟨[.int .u64 z, .bool b]⟩,m)=>if m.get 0= .cells false gl/\m.get 1=M.get c then some (.tuple ⟨[.int .u64 z, .bool b]⟩,M)else none
    |_=>none)else none
 |_=>none
theorem PU(z:Int)(b:Bool):Free (.tuple ⟨[.int .u64 z, .bool b]⟩):=FD (by
 intro x hx
 have hx:x∈ [Value.int .u64 z,Value.bool b]:=hx
 simp only[List.mem_cons,List.not_mem_nil,or_false]at hx
 rcases hx with rfl|rfl
 ·exact Cn _ _
 ·exact De _)
theorem OC(hW:E3){B0:Nat}{f:FuncId}{a:List Value}{M M':Mem}{v:Value}(h:bn f a M=some (v,M')):f=9/\EI Tryz.prog B0 1 f a M v M'/\EL M M':=by
 have hE:=Co Bu hK Ed (tJ hW B0) UR 20
 have hG:=CK (P:=Tryz.prog) (K:=kp) (G:=1) UR 20
 unfold bn at h
 split at h
 case h_3=>cases h
 ·rename_i c n n' k sp np cap port;by_cases hc:f=9/\Fits gl [c,k] [M.get c,M.get k] M
  case neg=>rw[if_neg hc]at h;cases h
  rw[if_pos hc]at h;obtain⟨rfl,hF⟩:=hc;split at h
  case h_2=>cases h
  rename_i z b m hR;by_cases hk:m.get 0= .cells false gl/\m.get 1=M.get c/\m.get 2=M.get k
  case neg=>rw[if_neg hk]at h;cases h
  rw[if_pos hk]at h;simp only[Option.some.injEq,Prod.mk.injEq]at h;obtain⟨rfl,rfl⟩:=h;refine⟨rfl,NP (B0:=B0) CO hE hG hF hR ?_ ((PU z b).embA _ _) hk.1 (λi s hi=>?_)⟩
  ·have h1:(λi=>Nat.blt i (1+ [c,k].length)) 1=true:=rfl;have h2:(λi=>Nat.blt i (1+ [c,k].length)) 2=true:=rfl;refine .cons (KN (.cons ((EB _ _).sim _ _) (.cons (EC (ρ:=DV [c,k] M) h1) .nil))) (.cons ?_ (.cons ((Cn _ _).sim _ _) .nil));cases sp with
   |none=>exact QI (ρ:=DV [c,k] M) h2
   |some e=>exact EC (ρ:=DV [c,k] M) h2
  ·rcases i with _|_|i
   ·cases hi;exact hk.2.1
   ·cases hi;exact hk.2.2
   ·cases hi
 ·rename_i c n n' port;by_cases hc:f=9/\Fits gl [c] [M.get c] M
  case neg=>rw[if_neg hc]at h;cases h
  rw[if_pos hc]at h;obtain⟨rfl,hF⟩:=hc;split at h
  case h_2=>cases h
  rename_i z b m hR;by_cases hk:m.get 0= .cells false gl/\m.get 1=M.get c
  case neg=>rw[if_neg hk]at h;cases h
  rw[if_pos hk]at h;simp only[Option.some.injEq,Prod.mk.injEq]at h;obtain⟨rfl,rfl⟩:=h;refine⟨rfl,NP (B0:=B0) CO hE hG hF hR ?_ ((PU z b).embA _ _) hk.1 (λi s hi=>?_)⟩
  ·have h1:(λi=>Nat.blt i (1+ [c].length)) 1=true:=rfl;exact .cons (KN (.cons ((EB _ _).sim _ _) (.cons (EC (ρ:=DV [c] M) h1) .nil))) (.cons ((EB _ _).sim _ _) (.cons ((Cn _ _).sim _ _) .nil))
  ·rcases i with _|i
   ·cases hi;exact hk.2
   ·cases hi
theorem WS(hW:E3):B5 bn:=λf a M v M' h=>(OC hW (B0:=0) h).2.2
theorem pQ(hW:E3)(B0:Nat):CR Tryz.prog B0 1 bn:=⟨λf a M v M' h=>(WS hW f a M v M' h).size,λf a M v M' h=>(OC hW h).2.1,λf a M v M' h=>by
 obtain rfl:=(OC hW (B0:=0) h).1
 exact hasB (by kernel_rfl)⟩
noncomputable def tK(pk:List Int):ByteArray:=⟨(pk.map λn=>UInt8.ofNat n.toNat).toArray⟩
theorem JN:∀pk:List Int,El (AN pk)=some (pk.map λn=>UInt8.ofNat n.toNat)
 | []=>rfl
 |n::pk=>by
  show(match Go.DI.byteOf (.int .u8 n)with|some b=>(match El (AN pk)with|some r=>some (b::r)|none=>none)|none=>none)=_;rw[JN pk];rfl
theorem lU:Tryz.prog.underlying 23=some (.slice 5):=by kernel_rfl
theorem tL:Tryz.prog.underlying 9=some .string:=by kernel_rfl
theorem tM:Tryz.prog.underlying 5=some (.int .u8):=by kernel_rfl
theorem OD{o:Bool}{pk:List Int}{b:Nat}{sp:Option Nat}{c:Nat}:lT (.cells o (AN pk)) (.slice (some ⟨b,0,sp⟩) pk.length c) (tK pk):=λm hm=>by
 have hm:m.get b= .cells o (AN pk):=hm
 have hl:(AN pk).length=pk.length:=Hb pk
 unfold IC
 rw[lU,tL]
 simp only
 rw[tM]
 simp only
 have:DB m b 0 pk.length=some (AN pk):=FY (rest:= []) (by rw[List.append_nil];exact hm) hl
 rw[this]
 simp only
 rw[JN]
 rfl
theorem jI{x:BI}:lT x (.slice none 0 0) (tK []):=λm _=>by
 unfold IC
 rw[lU,tL]
 simp only
 rw[tM]
 rfl
theorem US(s:ByteArray):u9 s:=by
 show some (Value.bool (s.toList==s.toList))=_
 rw[beq_self_eq_true]
theorem bp{P:Option (List Value)}{e:List Value}{new:List BI}{s:ByteArray}(f:FuncId)(v:Value)(args:List Value)(m:Mem)(hc:(hJ P e new s).call f=some v)(hs:(hJ P e new s).says f args m v):oE f args m=some (v,(hJ P e new s).eff f m):=by
 by_cases e15:f=15
 ·subst e15;exact hs
 ·have e1:Nat.beq f 15=false:=by cases hb:Nat.beq f 15 with
   |false=>rfl
   |true=>exact absurd (Nat.eq_of_beq_eq_true hb) e15
  have hc:cond (Nat.beq f 15) _ none=some v:=hc;rw[e1]at hc;cases hc
theorem UT{P:Option (List Value)}{e:List Value}{new:List BI}{s:ByteArray}(f:FuncId)(hc:(hJ P e new s).call f=none)(a:List Value)(m:Mem):oE f a m=none:=
 pP (by rintro rfl;cases hc) a m
theorem UU(a b:List BI):mS gl (a++b)=b.foldl Mem.push (mS gl a):=List.foldl_append ..
section
variable{l:List B9}{pk:List Int}{port v:Int}{o1 o2:Bool}
theorem pR(hR:Lp l pk port v)(hne:pk≠ [])(sp:Option Nat)(cap:Nat):
  ∃m,L4 l.length l.length port (.slice (some ⟨2,0,sp⟩) pk.length cap) [.cells o1 (AE l), .cells o2 (AN pk)]=some (jv v,m)/\m.get 0= .cells false gl/\m.get 1= .cells o1 (AE l)/\m.get 2= .cells o2 (AN pk):=by
 obtain⟨pc,st,regs,hx⟩:=s9 (o1:=o1) (o2:=o2) hR hne
 obtain⟨q1,q2⟩:=pM o1 o2 (AE l) (AN pk) l.length pk.length cap sp port (AO regs) pc st v (tK pk)
 obtain⟨v',m,a1,a2⟩:=H.callO_H (o:=oE) (P:=Tryz.prog) (K:=kp) (G:=1) (k:=20) (f:=9) (g:=λv m=>(v,m.get 0,m.get 1,m.get 2)) bp UT q1 q2 (by
  intro q hq;simp only[List.mem_cons,List.not_mem_nil,or_false]at hq;rcases hq with rfl|rfl|rfl|rfl|rfl
  ·exact Js hne hR.len
  ·show oE 15 _ _=_;rw[←UU];exact(if_pos rfl).trans hx
  ·exact OD
  ·exact OD
  ·exact US _)
 have e1:v'=_:=congrArg (λx=>x.1) a2
 have e2:m.get 0=_:=congrArg (λx=>x.2.1) a2
 have e3:m.get 1=_:=congrArg (λx=>x.2.2.1) a2
 have e4:m.get 2=_:=congrArg (λx=>x.2.2.2) a2
 exact⟨m,a1.trans (by rw[e1]),e2,e3,e4⟩
theorem pS(hR:Lp l [] port v)(sp:Option Nat)(cap:Nat):
  ∃m,L4 l.length l.length port (.slice (some ⟨2,0,sp⟩) 0 cap) [.cells o1 (AE l), .cells o2 []]=some (jv v,m)/\m.get 0= .cells false gl/\m.get 1= .cells o1 (AE l)/\m.get 2= .cells o2 []:=by
 obtain⟨pc,st,regs,hx⟩:=sd (o1:=o1) (o2:=o2) hR
 obtain⟨q1,q2⟩:=pN o1 o2 (AE l) l.length cap sp port (AO regs) pc st v (tK [])
 obtain⟨v',m,a1,a2⟩:=H.callO_H (o:=oE) (P:=Tryz.prog) (K:=kp) (G:=1) (k:=20) (f:=9) (g:=λv m=>(v,m.get 0,m.get 1,m.get 2)) bp UT q1 q2 (by
  intro q hq;simp only[List.mem_cons,List.not_mem_nil,or_false]at hq;rcases hq with rfl|rfl|rfl|rfl
  ·show oE 15 _ _=_;rw[←UU];exact(if_pos rfl).trans hx
  ·exact OD (pk:= [])
  ·exact OD (pk:= [])
  ·exact US _)
 have e1:v'=_:=congrArg (λx=>x.1) a2
 have e2:m.get 0=_:=congrArg (λx=>x.2.1) a2
 have e3:m.get 1=_:=congrArg (λx=>x.2.2.1) a2
 have e4:m.get 2=_:=congrArg (λx=>x.2.2.2) a2
 exact⟨m,a1.trans (by rw[e1]),e2,e3,e4⟩
theorem pT(hR:Lp l [] port v):
  ∃m,L4 l.length l.length port (.slice none 0 0) [.cells o1 (AE l)]=some (jv v,m)/\m.get 0= .cells false gl/\m.get 1= .cells o1 (AE l):=by
 obtain⟨pc,st,regs,hx⟩:=se (o1:=o1) hR
 obtain⟨q1,q2⟩:=pO o1 (AE l) l.length port (AO regs) pc st v (tK [])
 obtain⟨v',m,a1,a2⟩:=H.callO_H (o:=oE) (P:=Tryz.prog) (K:=kp) (G:=1) (k:=20) (f:=9) (g:=λv m=>(v,m.get 0,m.get 1,m.get 2)) bp UT q1 q2 (by
  intro q hq;simp only[List.mem_cons,List.not_mem_nil,or_false]at hq;rcases hq with rfl|rfl|rfl|rfl
  ·show oE 15 _ _=_;rw[←UU];exact(if_pos rfl).trans hx
  ·exact OD (pk:= [])
  ·exact jI
  ·exact US _)
 have e1:v'=_:=congrArg (λx=>x.1) a2
 have e2:m.get 0=_:=congrArg (λx=>x.2.1) a2
 have e3:m.get 1=_:=congrArg (λx=>x.2.2.1) a2
 exact⟨m,a1.trans (by rw[e1]),e2,e3⟩
def tO(M:Mem)(c:Nat)(pv:Value)(pk:List Int):Prop:=(pv= .slice none 0 0/\pk= [])\/∃k sp cap o,pv= .slice (some ⟨k,0,sp⟩) pk.length cap/\k<M.size/\k≠0/\k≠c/\M.get k= .cells o (AN pk)
theorem PV{M:Mem}{c:Nat}{pv:Value}(hR:Lp l pk port v)(hM:M.top)(h0:M.get 0= .cells false gl)(h1:1<=M.size)(hc:c<M.size)(hc0:c≠0)(gc:M.get c= .cells o1 (AE l))(hp:tO M c pv pk):
  bn 9 [Es (A6 c l.length),pv, .int .u32 port] M=some (jv v,M):=by
 rcases hp with⟨rfl,rfl⟩|⟨k,sp,cap,o2,rfl,hk,hk0,hkc,gk⟩
 ·obtain⟨m,a1,a2,a3⟩:=pT (o1:=o1) hR;show bn 9 [.agg ⟨[.slice none 0 0, .slice (some ⟨c,0,some 5⟩) l.length l.length]⟩, .slice none 0 0, .int .u32 port] M=_;unfold bn;simp only;rw[if_pos ⟨rfl,WG hM h0 h1 hc hc0 gc⟩,gc,a1];exact if_pos ⟨a2,a3⟩
 ·show bn 9 [.agg ⟨[.slice none 0 0, .slice (some ⟨c,0,some 5⟩) l.length l.length]⟩, .slice (some ⟨k,0,sp⟩) pk.length cap, .int .u32 port] M=_;unfold bn;simp only;rw[if_pos ⟨rfl,tP hM h0 h1 hc hk hc0 hk0 (Ne.symm hkc) gc gk⟩,gc,gk];by_cases hne:pk= []
  ·subst hne;obtain⟨m,a1,a2,a3,a4⟩:=pS (o1:=o1) (o2:=o2) hR sp cap;have a1:L4 l.length l.length port (.slice (some ⟨2,0,sp⟩) ([]:List Int).length cap) [.cells o1 (AE l), .cells o2 (AN [])]=some (jv v,m):=a1;rw[a1];exact if_pos ⟨a2,a3,a4⟩
  ·obtain⟨m,a1,a2,a3,a4⟩:=pR (o1:=o1) (o2:=o2) hR hne sp cap;rw[a1];exact if_pos ⟨a2,a3,a4⟩
end
end
end Go.Proofs.YtgjflcgmieiafaaGreatDoor
namespace Go.DI
noncomputable section
abbrev FR(l:Nat):Fence:=Fence.wide.inRound l
section
variable{P:Program}{l n:Nat}{Q:Exit->Act->World->Prop}{a:Act}{w:World}
theorem aJ:(FR l).depth.isSome=true->1<=n:=λh=>by cases h
theorem sD{row:String}{args:Array Value}{R:Value->World->Prop}(h:Rows P row args w R):RowsIn (FR l) n P row args w R:=λc cs _=>
 let⟨v,w',r,s⟩:=h c cs
 ⟨v,w',r,stepsIn_wide.2 s⟩
def H4(o:Oper):Bool:=match o.op with| .defer _=>false|_=>true
theorem sE{o:Oper}{next:Act->World->Prop}(hd:H4 o=true)(h:o.wp P a w next Q):o.wpIn (FR l) n P a w next Q:=by
 refine⟨λ_ _=>trivial,?_⟩
 have e:Oper.semAt (FR l).round a.eval o=execOp a.eval o:=Oper.semAt_some l _ _ (by intro c hc;simp[H4,hc]at hd)
 rw[e]
 unfold Oper.wp at h
 generalize (execOp a.eval o).run P w=r at*
 cases r with
 |ok x w'=>
  cases x<;>simp only[Oper.upon,Oper.uponIn]at h ⊢ <;>
   first
    |exact h
    |exact h.elim
    |exact⟨aJ,(callsIn_wide.2 h).mono (λe w'' he=>by cases e<;>exact he)⟩
    |exact⟨aJ,sD h⟩
 |halt x w'=>cases x<;>simp only[Oper.upon,Oper.uponIn]at h ⊢ <;>exact h
theorem V2(hQ:¬LetsOut Q){ops:Array Oper}(hd:ops.toList.all H4=true):∀(is:List Nat) (a:Act) (w:World),wpOps P ops Q is a w->wpOpsIn (FR l) n P ops Q is a w
 | [],a,w,h=>h
 |i::rest,a,w,h=>by
  simp only[wpOps]at h;simp only[wpOpsIn];cases ho:ops[i]? with
  |none=>rw[ho]at h;exact V2 hQ hd rest a w h
  |some o=>
   rw[ho]at h;simp only at h ⊢;by_cases hw:Region.wanted o (yielded ops a.tmps)=true
   ·rw[if_pos hw]at h ⊢;have hdo:H4 o=true:=List.all_eq_true.1 hd o (by rw[←Array.getElem?_toList]at ho;exact List.mem_of_getElem? ho);rcases h with h|h
    ·exact sE hdo (Oper.wp_mono (λa w h=>V2 hQ hd rest a w h) h)
    ·exact absurd h.2 hQ
   ·rw[if_neg hw]at h ⊢;exact⟨λ_ _=>trivial,V2 hQ hd rest _ w h⟩
theorem V3(hQ:¬LetsOut Q){md:Region.Mode}{ops:Array Oper}(hd:ops.toList.all H4=true):∀(fuel:Nat) (listed:Array Bool) (a:Act) (w:World),wpAny P md ops Q fuel listed a w->wpAnyIn (FR l) n P md ops Q fuel listed a w
 |0,listed,a,w,h=>h
 |fuel+1,listed,a,w,h=>by
  refine⟨h.1,λi hi=>?_⟩;have h2:=h.2 i hi;unfold wpOp at h2;unfold wpOpIn;cases ho:ops[i]? with
  |none=>rw[ho]at h2;exact V3 hQ hd fuel _ a w h2
  |some o=>
   rw[ho]at h2;simp only at h2 ⊢;by_cases hw:Region.wanted o (yielded ops a.tmps)=true
   ·rw[if_pos hw]at h2 ⊢;have hdo:H4 o=true:=List.all_eq_true.1 hd o (by rw[←Array.getElem?_toList]at ho;exact List.mem_of_getElem? ho);rcases h2 with h2|h2
    ·exact sE hdo (Oper.wp_mono (λa w h=>V3 hQ hd fuel _ a w h) h2)
    ·exact absurd h2.2 hQ
   ·rw[if_neg hw]at h2 ⊢;exact⟨λ_ _=>trivial,V3 hQ hd fuel _ _ w h2⟩
end
def JI:Code->Bool
 | .skip=>true
 | .label _=>true
 | .region _ ops _=>ops.toList.all H4
 | .seq a b=>JI a && JI b
 | .cond _ a b=>JI a && JI b
 | .block _ c=>JI c
 | .exit _=>true
 | .ret=>true
 |_=>false
section
variable{P:Program}{K:TypeId->Bool}{B0 G n:Nat}
theorem Xq(Bu:P.follows .mixedOrders=true)(hK:Plain P K){cf:C7}(hcf:CR P B0 G cf)(hg:B5 cf){k l d:Nat}:
  ∀(c:Code),JI c=true->∀(t:AF) (m:Mem) (e:Ex) (t':AF) (m':Mem),AI P K G cf (AV P K G cf n) n k c t m=some (e,t',m')->
   ∀(ι:Ren) (w:World) (a:Act) (Q:Exit->Act->World->Prop),¬LetsOut Q->Rel B0 G ι m w->Be ι n t a->FA ι m.size m'.size->(∀a' w',Em B0 G n ι m w a t' m' a' w'->Q e.to a' w')->c.wpIn (FR l) d P Q a w:=by
 intro c
 have hsz:=λc=>Mz (P:=P) (K:=K) (G:=G) (n:=n) (k:=k) hcf.size (LF (n:=n) Bu hK hcf hg).1 c
 induction c with
 |skip=>intro _ t m e t' m' h;simp[AI]at h;obtain⟨rfl,rfl,rfl⟩:=h;intro ι w a Q hx hr ht hf hQ;exact wpIn_skip (hQ a w ⟨ι,ht,hr,EP.refl _ _ _,rfl⟩)
 |label l=>intro _ t m e t' m' h;simp[AI]at h;obtain⟨rfl,rfl,rfl⟩:=h;intro ι w a Q hx hr ht hf hQ;exact wpIn_label (hQ a w ⟨ι,ht,hr,EP.refl _ _ _,rfl⟩)
 |region id ops draw=>
  intro hfl t m e t' m' h;simp only[AI]at h;split at h<;>simp at h;rename_i t₁ m₁ h1;obtain⟨rfl,rfl,rfl⟩:=h;intro ι w a Q hx hr ht hf hQ;cases draw
  ·refine wpIn_region (V2 hx hfl _ _ _ ?_);have:=Pz (Q:=Q) hK hcf (ops:=ops) ops.toList 0 (λj=>by simp) ι t m w a t₁ m₁ h1 hr ht hf hQ;rw[List.range_eq_range'];simpa using this
  ·exact wpIn_region_any Bu (V3 hx hfl _ _ _ _ (Ra hK hcf hg h1 hr ht hf hQ))
 |seq x y ihx ihy=>
  intro hfl t m e t' m' h;simp only[JI,Bool.and_eq_true]at hfl;simp only[AI]at h;intro ι w a Q hx hr ht hf hQ;split at h
  ·rename_i t₁ m₁ h1;have s1:=hsz x _ _ _ _ _ h1;have s2:=hsz y _ _ _ _ _ h;refine wpIn_seq (ihx hfl.1 _ _ _ _ _ h1 ι w a _ hx hr ht (hf.sub (Nat.le_refl _) s2) λa₁ w₁ ha=>?_);obtain⟨ι₁,g1,g2,g3,g4⟩:=ha;simp only[Ex.to,Exit.then];exact ihy hfl.2 _ _ _ _ _ h ι₁ w₁ a₁ Q hx g2 g1 ((hf.sub s1 (Nat.le_refl _)).stp g3 (Nat.le_refl _)) λa₂ w₂ ha₂=>hQ a₂ w₂ (Em.trans g3 g4 ha₂)
  ·rename_i hne;refine wpIn_seq (ihx hfl.1 _ _ _ _ _ h ι w a _ hx hr ht hf λa₁ w₁ ha=>?_);have:=hQ a₁ w₁ ha;cases e with
   |normal=>exact absurd h (hne _ _)
   |exit id=>exact this
   |ret=>exact this
 |cond c x y ihx ihy=>
  intro hfl t m e t' m' h;simp only[JI,Bool.and_eq_true]at hfl;simp only[AI]at h;intro ι w a Q hx hr ht hf hQ;split at h<;>try (simp at h;done)
  ·rename_i hc;exact wpIn_cond_true (BZ hr ht hc).inv_bool (ihx hfl.1 _ _ _ _ _ h ι w a Q hx hr ht hf hQ)
  ·rename_i hc;exact wpIn_cond_false (BZ hr ht hc).inv_bool (ihy hfl.2 _ _ _ _ _ h ι w a Q hx hr ht hf hQ)
 |block id c ih=>
  intro hfl t m e t' m' h;simp only[AI]at h;intro ι w a Q hx hr ht hf hQ;split at h
  ·rename_i id' t₁ m₁ h1;split at h<;>simp at h
   ·rename_i he;obtain⟨rfl,rfl,rfl⟩:=h;refine wpIn_block (ih hfl _ _ _ _ _ h1 ι w a _ hx hr ht hf λa₁ w₁ ha=>?_);simp only[Ex.to,Exit.inBlock,he,if_true];exact hQ a₁ w₁ ha
   ·rename_i he;obtain⟨rfl,rfl,rfl⟩:=h;refine wpIn_block (ih hfl _ _ _ _ _ h1 ι w a _ hx hr ht hf λa₁ w₁ ha=>?_);simp only[Ex.to,Exit.inBlock,he,if_false];exact hQ a₁ w₁ ha
  ·rename_i hne;refine wpIn_block (ih hfl _ _ _ _ _ h ι w a _ hx hr ht hf λa₁ w₁ ha=>?_);have:=hQ a₁ w₁ ha;cases e with
   |normal=>exact this
   |exit id=>exact absurd h (hne _ _ _)
   |ret=>exact this
 |loop c ih=>intro hfl;cases hfl
 |exit id=>intro _ t m e t' m' h;simp[AI]at h;obtain⟨rfl,rfl,rfl⟩:=h;intro ι w a Q hx hr ht hf hQ;exact wpIn_exit (hQ a w ⟨ι,ht,hr,EP.refl _ _ _,rfl⟩)
 |ret=>intro _ t m e t' m' h;simp[AI]at h;obtain⟨rfl,rfl,rfl⟩:=h;intro ι w a Q hx hr ht hf hQ;exact wpIn_ret (hQ a w ⟨ι,ht,hr,EP.refl _ _ _,rfl⟩)
 |rangeFunc=>intro hfl;cases hfl
 |scope=>intro hfl;cases hfl
 |goto=>intro hfl;cases hfl
 |refuse=>intro hfl;cases hfl
end
end
end Go.DI
namespace Go.DI
open Go.RowKit
noncomputable section
structure St(B0:Nat)(w0:World)(ι:Ren)(m:Mem)(W:World):Prop where
 rel:Rel B0 1 ι m W
 fresh:∀b,m.size<=b->ι b=none
 below:Below w0.heap.size w0 W
 own:∀b L,ι b=some L->(m.get b).own=true->w0.heap.size<=L.block
def GB(m:Mem):Prop:=∀b,(m.get b).own=true->∃o c,m.get b= .cells o c
def FC(W W':World):Prop:=W.heap.size<=W'.heap.size/\∀(k:Nat) (o:Obj),W.heap[k]?=some o->o.isCells=false->W'.heap[k]?=some o
theorem FC.refl(W:World):FC W W:=⟨Nat.le_refl _,λ_ _ h _=>h⟩
theorem FC.trans{A B C:World}(h:FC A B)(g:FC B C):FC A C:=⟨Nat.le_trans h.1 g.1,λk o ho hc=>g.2 k o (h.2 k o ho hc) hc⟩
theorem FC.from{A B:World}(h:FC A B)(n:Nat):KeepsFrom n A B:=⟨h.1,λk o _ ho hc=>h.2 k o ho hc⟩
section
variable{P:Program}{K:TypeId->Bool}{B0 n:Nat}{w0 W:World}{ι:Ren}{m:Mem}{t:AF}{a:Act}
theorem St.fresh'(h:St B0 w0 ι m W)(y:Nat):FA ι m.size y:=λb h1 _=>h.fresh b h1
theorem St.after(h:St B0 w0 ι m W)(hc:GB m){ι':Ren}{m':Mem}{W':World}(hr:Rel B0 1 ι' m' W')(hs:EP ι ι' m m' W W'):St B0 w0 ι' m' W'/\FC W W':=by
 refine⟨⟨hr,λb hb=>?_,?_,λb L hL ho=>?_⟩,hs.hsize,λk o ho hno=>?_⟩
 ·rw[hs.out b (.inr hb)];exact h.fresh b (Nat.le_trans hs.msize hb)
 ·refine⟨hs.os.trans h.below.os,hs.tape.trans h.below.tape,hs.output.trans h.below.output,Nat.le_trans h.below.size hs.hsize,λk hk=>?_⟩;rw[←h.below.block k hk];refine hs.frame k (Nat.lt_of_lt_of_le hk h.below.size) λb L hb hL ho e=>?_;have:=h.own b L hL ho;omega
 ·rcases Nat.lt_or_ge b m.size with hb|hb
  ·exact h.own b L (by rw[←hs.out b (.inl hb)];exact hL) (hs.ownk b hb ho)
  ·rcases Nat.lt_or_ge b m'.size with hb'|hb'
   ·rcases hs.new b L hb hb' hL with g|⟨b0,L0,g1,g2,g3,g4⟩
    ·exact Nat.le_trans h.below.size g
    ·rw[←g4];exact h.own b0 L0 g2 g3
   ·rw[hs.out b (.inr hb'),h.fresh b hb]at hL;cases hL
 ·have hk:k<W.heap.size:=(Array.getElem?_eq_some_iff.1 ho).1;rw[hs.frame k hk λb L hb hL hw e=>?_]
  ·exact ho
  ·obtain⟨o',c,hg⟩:=hc b hw;have:=h.rel.blk b L hb hL;rw[hg]at this;obtain⟨rc,e1,fr,h1,_⟩:=this;rw[e,ho]at h1;cases h1;cases hno
theorem piece(Bu:P.follows .mixedOrders=true)(hK:Plain P K){cf:C7}(hcf:CR P B0 1 cf)(hg:B5 cf){k d:Nat}{c:Code}{e:Ex}{t':AF}{m':Mem}
  (h:AI P K 1 cf (AV P K 1 cf n) n k c t m=some (e,t',m')) (hs:St B0 w0 ι m W) (hc:GB m) (ht:Be ι n t a) {Q:Exit->Act->World->Prop}
  (hQ:∀ι' a' W',St B0 w0 ι' m' W'->Be ι' n t' a'->a'.defers=a.defers->(∀b,b<m.size->ι' b=ι b)->FC W W'->Q e.to a' W'):c.wpIn Fence.wide d P Q a W:=by
 refine wpIn_wide.2 (KK hK hcf (LF Bu hK hcf hg) c t m e t' m' h ι W a Q hs.rel ht (hs.fresh' _) λa' W' ha=>?_)
 obtain⟨ι',g1,g2,g3,g4⟩:=ha
 obtain⟨h1,h2⟩:=hs.after hc g2 g3
 exact hQ ι' a' W' h1 g1 g4 (λb hb=>g3.out b (.inl hb)) h2
theorem hP(Bu:P.follows .mixedOrders=true)(hK:Plain P K){cf:C7}(hcf:CR P B0 1 cf)(hg:B5 cf){k l d:Nat}{c:Code}(hfl:JI c=true){e:Ex}{t':AF}{m':Mem}
  (h:AI P K 1 cf (AV P K 1 cf n) n k c t m=some (e,t',m')) (hs:St B0 w0 ι m W) (hc:GB m) (ht:Be ι n t a) {Q:Exit->Act->World->Prop} (hx:¬LetsOut Q)
  (hQ:∀ι' a' W',St B0 w0 ι' m' W'->Be ι' n t' a'->a'.defers=a.defers->(∀b,b<m.size->ι' b=ι b)->FC W W'->Q e.to a' W'):c.wpIn (FR l) d P Q a W:=by
 refine Xq Bu hK hcf hg c hfl t m e t' m' h ι W a Q hx hs.rel ht (hs.fresh' _) λa' W' ha=>?_
 obtain⟨ι',g1,g2,g3,g4⟩:=ha
 obtain⟨h1,h2⟩:=hs.after hc g2 g3
 exact hQ ι' a' W' h1 g1 g4 (λb hb=>g3.out b (.inl hb)) h2
theorem St.cut(hs:St B0 w0 ι m W){z:Nat}(hz:z<=m.size)(h1:1<=z){mz:Mem}(hsz:mz.size=z)(ht:mz.top)(hget:∀b,b<z->mz.get b=m.get b)(hseen:∀b,b<z->Kit.okB (m.get b)/\Kit.seenB z (m.get b)):
  St B0 w0 (ι.sub id λi=>Nat.blt i z) mz W:=by
 have hin:∀b L,(ι.sub id λi=>Nat.blt i z) b=some L->b<z/\ι b=some L:=λb L h=>by
  obtain⟨g1,g2⟩:=Kit.sub_id _ _ _ _ h;exact⟨by simpa[Nat.blt_eq]using g1,g2⟩
 refine⟨⟨λb L hb hL=>?_,λb₁ b₂ L₁ L₂ b1 b2 e1 e2 l1 l2 g0 e=>?_,hs.rel.floor,λg hg=>?_,ht⟩,λb hb=>?_,hs.below,λb L hL ho=>?_⟩
 ·obtain⟨g1,g2⟩:=hin b L hL;obtain⟨k1,k2⟩:=hseen b g1;rw[hget b g1];have hb:=Kit.bsim_ren (ρ:=id) k1 k2;rw[Kit.renB_id k1]at hb;exact hb.rel _ _ _ _ (hs.rel.blk b L (by omega) g2)
 ·obtain⟨g1,g2⟩:=hin _ _ e1;obtain⟨k1,k2⟩:=hin _ _ e2;rw[hget _ g1]at l1;rw[hget _ k1]at l2;exact hs.rel.inj _ _ _ _ (by omega) (by omega) g2 k2 l1 l2 g0 e
 ·obtain⟨L,p1,p2⟩:=hs.rel.glob g hg;refine⟨L,?_,p2⟩;obtain rfl:g=0:=by omega
  show(if Nat.blt 0 z=true then ι 0 else none)=some L;rw[if_pos (by simp[Nat.blt_eq];omega)];exact p1
 ·show(if Nat.blt b z=true then ι b else none)=none;rw[if_neg (by simp[Nat.blt_eq];omega)]
 ·obtain⟨g1,g2⟩:=hin _ _ hL;rw[hget _ g1]at ho;exact hs.own _ _ g2 ho
theorem bC{ι ι':Ren}{z:Nat}(hf:∀b,z<=b->ι b=none)(he:∀b,b<z->ι' b=ι b):(ι'.sub id λi=>Nat.blt i z)=ι:=by
 funext b
 show(if Nat.blt b z=true then ι' b else none)=ι b
 by_cases h:b<z
 ·rw[if_pos (by simp[Nat.blt_eq];omega)];exact he b h
 ·rw[if_neg (by simp[Nat.blt_eq];omega)];exact(hf b (by omega)).symm
theorem St.grown(hs:St B0 w0 ι m W)(hc:∀b,(m.get b).live->∃o c,m.get b= .cells o c){W':World}{row:Option Nat}{B:Nat}(hB:w0.heap.size<=B)(hg:W.grownBy W' row)(hr:∀r,row=some r->B<=r/\∃o:Obj,W.heap[r]?=some o/\o.isCells=false):St B0 w0 ι m W':=by
 refine⟨⟨λb L hb hL=>?_,hs.rel.inj,Nat.le_trans hs.rel.floor hg.size,hs.rel.glob,hs.rel.top⟩,hs.fresh,⟨hg.os.trans hs.below.os,hg.tape.trans hs.below.tape,hg.output.trans hs.below.output,Nat.le_trans hs.below.size hg.size,λk hk=>?_⟩,hs.own⟩
 ·have hb0:=hs.rel.blk b L hb hL;refine hb0.monoL (λ_ _ h=>h) λhl=>?_;obtain⟨o,c,hgb⟩:=hc b hl;have hlt:=hb0.lt hl;refine hg.block _ hlt λe=>?_;obtain⟨_,o',ho',hno⟩:=hr _ e.symm;rw[hgb]at hb0;obtain⟨rc,e1,fr,h1,_⟩:=hb0;rw[h1]at ho';cases ho';cases hno
 ·rw[hg.block k (Nat.lt_of_lt_of_le hk hs.below.size) λe=>?_]
  ·exact hs.below.block k hk
  ·obtain⟨h1,_⟩:=hr _ e.symm;omega
end
section
variable{P:Program}{F:Fence}{n:Nat}{Q:Exit->Act->World->Prop}{a:Act}{w w':World}{ops:Array Oper}{rest:List Nat}{i:Nat}{o:Oper}{ρ:Operand->Value}
theorem run_move{x:Operand}(h:o.op= .move x):(execOp ρ o).run P w= .ok (.value (ρ x)) w:=by unfold execOp;rw[h];rfl
theorem run_assign{x:Operand}(h:o.op= .assign x):(execOp ρ o).run P w= .ok (.value (ρ x)) w:=by unfold execOp;rw[h];rfl
theorem V8{ty:TypeId}{x:Operand}{b:Bool}(h:o.op= .unOp .not ty x)(hx:ρ x= .bool b):(execOp ρ o).run P w= .ok (.value (.bool (!b))) w:=by
 unfold execOp;rw[h];simp only[hx];rfl
theorem SC{f:Operand}{args:Array Operand}{tys:Array TypeId}{l:Nat}(h:o.op= .call ⟨.value f,args,tys⟩)(hf:ρ f= .func (.yield l) #[] #[]):(execOp ρ o).run P w=(Instr.yield l (args.map ρ)).run P w:=by
 unfold execOp;rw[h]
 simp[resolve,hf,Deferred.ofValue,invoke]
theorem V9{v:Value}(ho:ops[i]?=some o)(hg:o.guard=none)(hF:∀f,F.fn f)(hr:(Oper.semAt F.round a.eval o).run P w= .ok (.value v) w')(h:wpOpsIn F n P ops Q rest (a.put o.dst v) w'):wpOpsIn F n P ops Q (i::rest) a w:=by
 simp only[wpOpsIn,ho]
 rw[if_pos (by simp[Region.wanted,hg])]
 refine⟨λf _=>hF f,?_⟩
 rw[hr]
 exact h
theorem Xx{l:Nat}{fn:FuncId}{tmps:Array Value}{assign body:Code}(ho:ops[i]?=some o)(hg:o.guard=none)(hF:∀f,F.fn f)(hd:F.depth=none)(hr:(Oper.semAt F.round a.eval o).run P w= .ok (.round l fn tmps assign body) w')
  (h:RoundIn F (n - 1) P l fn tmps assign body w' λe w''=>∃v,e= .returned v/\wpOpsIn F n P ops Q rest (a.put o.dst v) w''):wpOpsIn F n P ops Q (i::rest) a w:=by
 simp only[wpOpsIn,ho]
 rw[if_pos (by simp[Region.wanted,hg])]
 refine⟨λf _=>hF f,?_⟩
 rw[hr]
 refine⟨λg=>(by rw[hd]at g;cases g),h.mono ?_⟩
 rintro e w'' ⟨v,rfl,hv⟩
 exact hv
end
section
variable{P:Program}{n:Nat}{Q:Exit->Act->World->Prop}{a:Act}{w w':World}{ops:Array Oper}{rest:List Nat}{i:Nat}{o:Oper}
theorem SD{ρ:Operand->Value}:Oper.semAt Fence.wide.round ρ o=execOp ρ o:=Oper.semAt_none ρ o
theorem KW{v:Value}(ho:ops[i]?=some o)(hg:o.guard=none)(hr:(execOp a.eval o).run P w= .ok (.value v) w')(h:wpOpsIn Fence.wide n P ops Q rest (a.put o.dst v) w'):wpOpsIn Fence.wide n P ops Q (i::rest) a w:=
 V9 ho hg (λ_=>trivial) (by rw[SD];exact hr) h
theorem Tx{l:Nat}{fn:FuncId}{tmps:Array Value}{assign body:Code}(ho:ops[i]?=some o)(hg:o.guard=none)(hr:(execOp a.eval o).run P w= .ok (.round l fn tmps assign body) w')
  (h:RoundIn Fence.wide (n - 1) P l fn tmps assign body w' λe w''=>∃v,e= .returned v/\wpOpsIn Fence.wide n P ops Q rest (a.put o.dst v) w''):wpOpsIn Fence.wide n P ops Q (i::rest) a w:=
 Xx ho hg (λ_=>trivial) rfl (by rw[SD];exact hr) h
end
section
variable{ι:Ren}{n:Nat}{t:AF}{a:Act}
theorem Be.full(h:Be ι n t a)(kn:List (Nat×Value))(hk:∀p∈kn,t.at p.1=p.2):∃x,Be ι n (AB n (up x kn)) a:=by
 refine⟨λd=>t.at d,h.1,λd=>?_⟩
 rw[Kit.up_self _ kn hk,GL]
 by_cases hd:d<n
 ·rw[if_pos hd];exact h.2 d
 ·rw[if_neg hd,Array.getD_eq_getD_getElem?,Array.getElem?_eq_none (by rw[h.1];omega)];exact AZ.undef _
theorem Be.int(h:Be ι n t a){d:Nat}{k:IntKind}{z:Int}(hd:t.at d= .int k z):a.tmps.getD d undef= .int k z:=by
 have:=h.2 d
 rw[hd]at this
 generalize a.tmps.getD d undef=u at this ⊢
 cases this
 rfl
theorem Be.bool(h:Be ι n t a){d:Nat}{b:Bool}(hd:t.at d= .bool b):a.tmps.getD d undef= .bool b:=by
 have:=h.2 d
 rw[hd]at this
 generalize a.tmps.getD d undef=u at this ⊢
 cases this
 rfl
theorem Be.yield(h:Be ι n t a){d l:Nat}(hd:t.at d= .func (.yield l) #[] #[]):a.tmps.getD d undef= .func (.yield l) #[] #[]:=by
 have:=h.2 d
 rw[hd]at this
 generalize a.tmps.getD d undef=u at this ⊢
 cases this with
 |func fn x x' y y' hx hy=>
  have e1:x'= #[]:=Array.eq_empty_of_size_eq_zero hx.symm;have e2:y'= #[]:=Array.eq_empty_of_size_eq_zero hy.symm;rw[e1,e2]
theorem Ng(ι:Ren)(l:Nat):AZ ι (.func (.yield l) #[] #[]) (.func (.yield l) #[] #[]):= .func _ _ _ _ _ rfl rfl (λi x y hx=>by simp at hx) (λi x y hx=>by simp at hx)
end
theorem LN{ι:Ren}{args args':List Value}{nt:Nat}(hargs:Bb ι args args'):Be ι (max args.length nt) (AB (max args.length nt) (Bv args)) {tmps:=args'.toArray++Array.replicate (nt - args'.toArray.size) undef,defers:= []}:=by
 have hlen:=hargs.length
 refine⟨by simp;omega,λd=>?_⟩
 rw[GL,QS]
 cases hd:args[d]? with
 |some v=>
  obtain⟨y,hy,hry⟩:=hargs.get hd
  have hlt:d<args'.length:=by
   rcases Nat.lt_or_ge d args'.length with h1|h1
   ·exact h1
   ·rw[List.getElem?_eq_none h1]at hy;cases hy
  have hld:d<args.length:=(List.getElem?_eq_some_iff.1 hd).1
  have:(args'.toArray++Array.replicate (nt - args'.toArray.size) undef).getD d undef=y:=by
   rw[Array.getD_eq_getD_getElem?,Array.getElem?_append_left (by simpa using hlt),List.getElem?_toArray,hy];rfl
  rw[this,if_pos (by omega)];exact hry
 |none=>
  have hge:args.length<=d:=List.getElem?_eq_none_iff.1 hd
  have:(args'.toArray++Array.replicate (nt - args'.toArray.size) undef).getD d undef=undef:=by
   rw[Array.getD_eq_getD_getElem?,Array.getElem?_append_right (by simp;omega),Array.getElem?_replicate];split<;>rfl
  rw[this];split
  ·exact AZ.undef _
  ·exact AZ.undef _
theorem PI{B0 G:Nat}{ι:Ren}{m:Mem}{w W:World}(hr:Rel B0 G ι m w)(hb:Below w.heap.size w W):Rel B0 G ι m W:=
 ⟨λb L h1 h2=>(hr.blk b L h1 h2).monoL (λ_ _ h=>h) λhl=>hb.block _ ((hr.blk b L h1 h2).lt hl),hr.inj,Nat.le_trans hr.floor hb.size,hr.glob,hr.top⟩
theorem aQ{P:Program}{ι ι':Ren}{m m':Mem}{W W':World}(hs:EP ι ι' m m' W W')(ho:∀b,(m.get b).own=false):W.grownBy W' none:=
 ⟨hs.os,hs.tape,hs.output,hs.hsize,λk hk _=>hs.frame k hk λb L _ _ h=>by rw[ho b]at h;cases h⟩
theorem aR{ι ι':Ren}{m:Mem}{W W':World}(hs:EP ι ι' m m W W'):ι'=ι:=by
 funext b
 rcases Nat.lt_or_ge b m.size with h|h
 ·exact hs.out b (.inl h)
 ·exact hs.out b (.inr h)
def IQ:Code->Nat->Array Oper
 | .region id ops _,i=>if id=i then ops else #[]
 | .seq x y,i=>if(IQ x i).isEmpty then IQ y i else IQ x i
 | .cond _ x y,i=>if(IQ x i).isEmpty then IQ y i else IQ x i
 | .block _ c,i=>IQ c i
 | .loop c,i=>IQ c i
 | .scope c,i=>IQ c i
 | .rangeFunc _ _ x y,i=>if(IQ x i).isEmpty then IQ y i else IQ x i
 |_,_=> #[]
end
end Go.DI
namespace Go.Proofs.YtgjflcgmieiafaaGreatDoor
open Go Go.DI Go.DI.Kit Go.Proofs Go.Cmp Go.RowKit
noncomputable section
def b9:List Value->Option (List Value×List Nat):=λa=>match a with
 | [.agg x]=>some ([.agg x],[])
 |_=>none
def sq:List Value->Option (List Value×List Nat):=λa=>match a with
 | [.agg ⟨[.slice none 0 0, .slice (some ⟨c,0,some 5⟩) n n']⟩, .int .i64 p]=>some ([.agg ⟨[.slice none 0 0, .slice (some ⟨1,0,some 5⟩) n n']⟩, .int .i64 p],[c])
 |_=>none
noncomputable def Q4:C1:=MA (G9 gl 47 Jb b9) (MA (G9 gl 48 Jb b9) (G9 gl 68 Jb sq))
theorem IW(B0:Nat):CR Tryz.prog B0 1 Jb:=Co Bu hK Ed (SA B0) Iw 20
theorem Gf:B5 Jb:=CK Iw 20
theorem Gb:B5 Q4:=KU (E9 CO IW Gf) (KU (E9 CO IW Gf) (E9 CO IW Gf))
theorem Jp(B0:Nat):CR Tryz.prog B0 1 Q4:=MQ (GN CO IW Gf B0) (MQ (GN CO IW Gf B0) (GN CO IW Gf B0))
theorem MU{f:FuncId}(h1:f≠47)(h2:f≠48)(h3:f≠68)(a:List Value)(M:Mem):Q4 f a M=none:=by
 unfold Q4
 rw[Je (FJ h1 a M),Je (FJ h2 a M),FJ h3]
theorem bg{M:Mem}(ht:M.top)(h0:M.get 0= .cells false gl)(h1:1<=M.size):Fits gl [] (([]:List Nat).map M.get) M:=
 ⟨ht,h0,h1,rfl,λb hb=>by simp at hb,by simp,by simp,λi b s hi=>by simp at hi,λs hs=>by simp at hs⟩
theorem Nz(x:B9):(AU x).all GM=true:=rfl
theorem oY{M:Mem}{x:B9}{w:List Value}(ht:M.top)(h0:M.get 0= .cells false gl)(h1:1<=M.size)(h:PS x w)(hw:w.all GM=true):Q4 47 [.agg ⟨AU x⟩] M=some (.tuple ⟨[.agg ⟨w⟩, .int .i64 0]⟩,M):=by
 obtain⟨m,a1,a2⟩:=h
 refine QT (IP (op:=b9) rfl (bg ht h0 h1) (.cons ((GA (Nz x)).sim _ _) .nil) a1 ?_ a2 (λi s hi=>by simp at hi))
 simp[LM,Nd,hw]
theorem bh{M:Mem}{x:B9}{n:Int}(ht:M.top)(h0:M.get 0= .cells false gl)(h1:1<=M.size)(h:S7 x n):Q4 48 [.agg ⟨AU x⟩] M=some (.int .i64 n,M):=by
 obtain⟨m,a1,a2⟩:=h
 unfold Q4
 rw[Je (FJ (by decide) _ M)]
 exact QT (IP (op:=b9) rfl (bg ht h0 h1) (.cons ((GA (Nz x)).sim _ _) .nil) a1 rfl a2 (λi s hi=>by simp at hi))
theorem oV{M:Mem}{c:Nat}{own:Bool}{l:List B9}{p:Int}{w:List Value}(ht:M.top)(h0:M.get 0= .cells false gl)(h1:1<=M.size)(hc:c<M.size)(hc0:c≠0)(gc:M.get c= .cells own (AE l))(h:PR own (AE l) l.length p w)(hw:w.all GM=true):
  Q4 68 [Es (A6 c l.length), .int .i64 p] M=some (.tuple ⟨[.agg ⟨w⟩, .int .i64 0]⟩,M):=by
 obtain⟨m,a1,a2,a3⟩:=h
 unfold Q4
 rw[Je (FJ (by decide) _ M),Je (FJ (by decide) _ M)]
 have hF:=WG (o1:=own) ht h0 h1 hc hc0 gc
 refine IP (op:=sq) (sa:= [Es (A6 1 l.length), .int .i64 p]) (bs:= [c]) rfl hF ?_ (m:=m) (by
  show Jb 68 _ (mS gl [M.get c])=_;rw[gc];exact a1) (by simp[LM,Nd,hw]) a2 (λi s hi=>?_)
 ·have hb:(λi=>Nat.blt i (1+ [c].length)) 1=true:=rfl;exact .cons (KN (.cons ((EB _ _).sim _ _) (.cons (EC (ρ:=DV [c] M) hb) .nil))) (.cons ((Cn _ _).sim _ _) .nil)
 ·rcases i with _|i
  ·have hi:some (M.get c)=some s:=hi;cases hi;rw[gc];exact a3
  ·cases hi
noncomputable abbrev yM:EV:=CG Tryz.prog kp 1 Q4 20
theorem bj(B0:Nat):CR Tryz.prog B0 1 yM:=Co Bu hK Ed (Jp B0) Gb 20
theorem jB:B5 yM:=CK Gb 20
noncomputable def xC:Code:=AM Tryz.f93
theorem iU:Tryz.prog.funcs[93]?=some Tryz.f93:=by kernel_rfl
theorem iV:Tryz.f93.body=some xC:=by kernel_rfl
noncomputable def jC(i:Nat):Array Oper:=IQ xC i
noncomputable def t93:Code:= .seq (.seq (.region 1 (jC 1) false) (.cond (.tmp 7) .skip (.exit 0))) (.block 1 (.seq (.seq (.region 2 (jC 2) false) (.cond (.tmp 11) .ret .skip)) (.region 3 (jC 3) false)))
theorem pD:xC= .seq (.region 0 (jC 0) false) (.block 0 (.loop t93)):=by kernel_rfl
noncomputable def Hn(L:List Value)(n:Nat):Mem:=mS gl [.cells false L, .cells false [A6 1 n]]
noncomputable def hI(x:List Value)(lt:Bool)(pl:Int):H.Hint where
 ix t:=Nat.beq t 30
 ld _ t _:=cond (Nat.beq t 110) (some (.agg ⟨x⟩)) none
 cmp op t:=cond (Nat.beq t 3) (BinOp.rec (motive:=λ_=>Option Bool) none none none none none none none none none none none none none (some lt) none none none op) none
 ap _:=none
 call f:=cond (Nat.beq f 48) (some (.int .i64 pl)) (cond (Nat.beq f 47) (some undef) (cond (Nat.beq f 68) (some undef) none))
 spec _ _ _ _:=False
 blk:=0
 specM f:=cond (Nat.beq f 48) (some λargs m v=>Q4 48 args m=some (v,m)) (some never)
theorem su{x:List Value}{lt:Bool}{pl:Int}(f:FuncId)(v:Value)(args:List Value)(m:Mem)(hc:(hI x lt pl).call f=some v)(hs:(hI x lt pl).says f args m v):Q4 f args m=some (v,(hI x lt pl).eff f m):=by
 by_cases e:f=48
 ·subst e;exact hs
 ·exfalso
  have e1:Nat.beq f 48=false:=by cases hb:Nat.beq f 48 with
   |false=>rfl
   |true=>exact absurd (Nat.eq_of_beq_eq_true hb) e
  unfold H.Hint.says at hs;have:(hI x lt pl).specM f=some never:=by show cond (Nat.beq f 48) _ _=_;rw[e1];rfl
  rw[this]at hs;exact hs
theorem pE{x:List Value}{lt:Bool}{pl:Int}(f:FuncId)(hc:(hI x lt pl).call f=none)(a:List Value)(m:Mem):Q4 f a m=none:=
 MU (by rintro rfl;cases hc) (by rintro rfl;cases hc) (by rintro rfl;cases hc) a m
noncomputable def yV(l:Nat):Value:= .func (.yield l) #[] #[]
noncomputable def dj(l:Nat)(p:Int):List (Nat×Value):= [(0,yV l),(1,BP 2 0),(3, .int .i64 p)]
abbrev sx:=Ex×Value×Value×Value×Value×Mem
noncomputable def sy(x:List Value)(lt:Bool)(pl:Int)(c:Code)(d:Nat)(t:AF)(M:Mem):Option (H.TT sx):=
 H.codeT (hI x lt pl) c Tryz.prog kp 1 (H.callT (hI x lt pl) Tryz.prog kp 1 20) (λbody _ k t m q=>Y.loopF body k t m q) 20 20 t M λe t m=>some ((e,t.at 0,t.at 1,t.at 3,t.at d,m),[],[])
theorem tA(y:Nat->Value)(L:List Value)(n l:Nat):Rn (sy [] false 0 (.region 0 (jC 0) false) 3 (AB 20 (up y [(0,yV l),(1,BP 2 0)])) (Hn L n)) ((.normal,yV l,BP 2 0, .int .i64 0, .int .i64 0,Hn L n),[]):=⟨by kernel_rfl,by kernel_rfl⟩
theorem lS(y:Nat->Value)(L:List Value)(n l:Nat)(p:Int)(lt:Bool):Rn (sy [] lt 0 (.region 1 (jC 1) false) 7 (AB 20 (up y (dj l p))) (Hn L n)) ((.normal,yV l,BP 2 0, .int .i64 p, .bool lt,Hn L n),[B6 Tryz.prog kp .lss 3 (.int .i64 p) (.int .i64 (Int.ofNat n))=some (.bool lt)]):=⟨by kernel_rfl,by kernel_rfl⟩
theorem pF(y:Nat->Value)(L x:List Value)(n l:Nat)(p:Int):Rn (sy x false 1 (.region 3 (jC 3) false) 3 (AB 20 (up y (dj l p))) (Hn L n)) ((.normal,yV l,BP 2 0, .int .i64 (IntKind.wrap .i64 (Int.add p 1)), .int .i64 (IntKind.wrap .i64 (Int.add p 1)),Hn L n),[IV p n,Jo L p x,Q4 48 [.agg ⟨x⟩] (Hn L n)=some (.int .i64 1,Hn L n)]):=⟨by kernel_rfl,by kernel_rfl⟩
theorem pH(y:Nat->Value)(L x:List Value)(n l:Nat)(p:Int):Rn (sy x false 2 (.region 3 (jC 3) false) 3 (AB 20 (up y (dj l p))) (Hn L n)) ((.normal,yV l,BP 2 0, .int .i64 (IntKind.wrap .i64 (Int.add p 2)), .int .i64 (IntKind.wrap .i64 (Int.add p 2)),Hn L n),[IV p n,Jo L p x,Q4 48 [.agg ⟨x⟩] (Hn L n)=some (.int .i64 2,Hn L n)]):=⟨by kernel_rfl,by kernel_rfl⟩
end
end Go.Proofs.YtgjflcgmieiafaaGreatDoor
namespace Go.Proofs.YtgjflcgmieiafaaGreatDoor
open Go Go.DI Go.DI.Kit Go.Proofs Go.Cmp
noncomputable section
def wy:List Value->Option (List Value×List Nat):=λa=>match a with
 | [.slice (some ⟨k,0,sp⟩) n cap, .int .i64 off, .int .i64 z]=>some ([.slice (some ⟨1,0,sp⟩) n cap, .int .i64 off, .int .i64 z],[k])
 | [.slice none 0 0, .int .i64 off, .int .i64 z]=>some ([.slice none 0 0, .int .i64 off, .int .i64 z],[])
 |_=>none
noncomputable abbrev wz:EV:=AJ Tryz.prog kp 1 oQ 20
theorem b8(B0:Nat):CR Tryz.prog B0 1 wz:=Nc Bu hK Ed kf Mk 20
theorem WM:B5 wz:=Iv Mk 20
noncomputable def xA:C1:=MA (G9 gl 18 wz b9) (G9 gl 63 Jb wy)
theorem WN:B5 xA:=KU (E9 CO b8 WM) (E9 CO IW Gf)
theorem pA(B0:Nat):CR Tryz.prog B0 1 xA:=MQ (GN CO b8 WM B0) (GN CO IW Gf B0)
noncomputable abbrev sk:EV:=CG Tryz.prog kp 1 xA 20
def yK(own:Bool)(P:List Value)(pv:Value)(port:Int)(tv:List Value)(b:Bool):Prop:=∃m,sk 17 [.agg ⟨tv⟩,pv, .int .u32 port] (mS gl [.cells own P])=some (.bool b,m)/\m.get 0= .cells false gl/\m.get 1= .cells own P
theorem YG{n lo hi:Int}{neg:Bool}{R:Bool->Prop}(TT:lo<=n->n<=hi->R (!neg))(TF:lo<=n->¬n<=hi->R neg)(F:¬lo<=n->R neg):R (decide (lo<=n/\n<=hi) !=neg):=by
 by_cases h1:lo<=n
 ·by_cases h2:n<=hi
  ·rw[decide_eq_true ⟨h1,h2⟩];have:=TT h1 h2;cases neg<;>exact this
  ·rw[decide_eq_false (λh=>h2 h.2)];have:=TF h1 h2;cases neg<;>exact this
 ·rw[decide_eq_false (λh=>h1 h.1)];have:=F h1;cases neg<;>exact this
theorem Dx{a b:Int}(h:a<=b):GZ a b true:=by unfold GZ;simp[B6,Ba,Bc];omega
theorem pB{a b:Int}(h:¬a<=b):GZ a b false:=by unfold GZ;simp[B6,Ba,Bc];omega
theorem YH{t:A8}(h:Dg t=true):(t.kind=1\/t.kind=2)\/((t.kind=3\/t.kind=4)/\(t.size=1\/t.size=2\/t.size=4\/t.size=8)/\0<=t.pos/\t.pos<=255):=by
 unfold Dg at h
 split at h
 ·cases h
 ·split at h
  ·rename_i h2;exact .inl h2
  ·split at h
   ·cases h
   ·split at h
    ·cases h
    ·rename_i h3 h4;simp only[decide_eq_true_eq]at h;exact .inr ⟨by omega,by omega,h.1,h.2.1⟩
theorem sm{n:Nat}(h:n<=1000000):IntKind.wrap .u64 (Int.ofNat n)=(n:Int):=IntWalk.u64_in _ (by show 0<=(n:Int)/\(n:Int)<=_;omega)
theorem iw{a b:Int}(ha:u64 a)(hb:u64 b):sj a b=DZ a b:=PZ ha hb
noncomputable def ye(z:Nat)(off:Int):Option (H.TT (Value×BI)):=
 H.callT (yL true 0 0 none z (λ_=>0)) Tryz.prog kp 1 20 63 [.slice none 0 0, .int .i64 off, .int .i64 (Int.ofNat z)] (mS gl []) λv m=>some ((v,m.get 0),[],[])
def u6(port:Int)(tv:List Value)(b:Bool):Prop:=∃m,sk 17 [.agg ⟨tv⟩, .slice none 0 0, .int .u32 port] (mS gl [])=some (.bool b,m)/\m.get 0= .cells false gl
theorem WO(ss:List BI):(mS gl ss).get 0= .cells false gl:=by
 have:=CM ss (mG gl) 0
 unfold mS
 rw[this,mG_size,if_pos (by decide),mG_get]
theorem bd(ss:List BI):1<=(mS gl ss).size:=by unfold mS;rw[Cm,mG_size];omega
def jA:List Value->Option (List Value×List Nat):=λa=>match a with
 | [.agg tv, .slice (some ⟨k,0,sp⟩) n cap, .int .u32 port]=>some ([.agg tv, .slice (some ⟨1,0,sp⟩) n cap, .int .u32 port],[k])
 | [.agg tv, .slice none 0 0, .int .u32 port]=>some ([.agg tv, .slice none 0 0, .int .u32 port],[])
 |_=>none
noncomputable def xB:C1:=G9 gl 17 sk jA
theorem bf(B0:Nat):CR Tryz.prog B0 1 sk:=Co Bu hK Ed (pA B0) WN 20
theorem WQ:B5 sk:=CK WN 20
theorem pC(B0:Nat):CR Tryz.prog B0 1 xB:=GN CO bf WQ B0
theorem WR:B5 xB:=E9 CO bf WQ
def JU(M:Mem)(pv:Value)(pk:List Int):Prop:=(pv= .slice none 0 0/\pk= [])\/∃k sp cap own,pv= .slice (some ⟨k,0,sp⟩) pk.length cap/\pk.length<=cap/\(sp=none\/pk= [])/\k<M.size/\k≠0/\M.get k= .cells own (AN pk)
theorem so{M:Mem}{k:Nat}{own:Bool}{pk:List Int}(hM:M.top)(h0:M.get 0= .cells false gl)(h1:1<=M.size)(hk:k<M.size)(hk0:k≠0)(gk:M.get k= .cells own (AN pk)):Fits gl [k] [M.get k] M:=by
 refine⟨hM,h0,h1,rfl,λb hb=>?_,?_,by simp,λi b s hi hs=>?_,λs hs=>?_⟩
 ·obtain rfl:=List.mem_singleton.1 hb;exact hk
 ·simp only[List.mem_cons,List.not_mem_nil,or_false];exact λh=>hk0 h.symm
 ·rcases i with _|i
  ·cases hi;cases hs;rw[gk];show _=BI.cells own _;rw[CZ (DN pk)]
  ·cases hi
 ·obtain rfl:=List.mem_singleton.1 hs;rw[gk];exact⟨λv hv=>F9 (List.all_eq_true.1 (DN pk) v hv),λv hv=>Dv (List.all_eq_true.1 (DN pk) v hv)⟩
end
end Go.Proofs.YtgjflcgmieiafaaGreatDoor
namespace Go.DI
open Go.RowKit
noncomputable section
def Marks(Ds:List Nat)(W:World):Prop:=∀D∈Ds,W.heap[D]?=some (.deferred (some []))
theorem Marks.keeps{Ds:List Nat}{W W':World}(h:Marks Ds W)(hk:FC W W'):Marks Ds W':=λD hD=>hk.2 D _ (h D hD) rfl
section
variable{P:Program}{B0 n d:Nat}{w0 w:World}{ι:Ren}{m0:Mem}{a:Act}{g:Operand}{ps:Array Tmp}{assign body:Code}{Q:Exit->Act->World->Prop}
theorem Nh{α:Type}(hs:St B0 w0 ι m0 w){Ds:List Nat}(hDs:Marks Ds w)(hd:1<=d){gf:Nat}{lb:Array Value}(hg:a.eval g= .func (.func gf) #[] lb)(eg:∀args w,(callFunc gf args).run P w= .ok (.enter gf args) w)
  {encs:α->Array Value} {Kp:World->World->Prop} {S:List α->Prop} {N:Nat} (hseq:SeqStopsK Fence.wide (d - 1) P gf lb encs Kp S (λ_=>True) N w)
  (hKt:∀{A B C:World},Kp A B->Kp B C->Kp A C) (hKb:∀(W:World) (l:Nat) (o o':Obj),w.heap.size<=l->W.heap[l]?=some o->o.isCells=false->o.isWalk=false->Kp W (W.putObj l o')) (hps:∀x,(encs x).size=ps.size)
  (mp:List α->Mem) (h0:mp []=m0) (hc:∀pre b,((mp pre).get b).live->∃o c,(mp pre).get b= .cells o c) (a₁:α->Act)
  (hassign:∀(l:Nat) (x:α) (W:World) (K:Act->World->Prop),K (a₁ x) W->
   assign.wpIn (FR l) (d - 1 - 1) P (Exit.then K (λ_ _ _=>False)) {tmps:=(ps.zip (encs x)).foldl (λt (p,v)=>t.setIfInBounds p v) a.tmps,defers:= []} W)
  (hbody:∀(l:Nat) (pre:List α) (x:α) (W:World) (Q':Exit->Act->World->Prop),¬LetsOut Q'->St B0 w0 ι (mp pre) W->(∀a' W',FC W W'->St B0 w0 ι (mp (pre++ [x])) W'->Q' .normal a' W')->body.wpIn (FR l) (d - 1 - 1) P Q' (a₁ x) W)
  (hKp:∀(pre:List α) (W W':World),St B0 w0 ι (mp pre) W'->Kp W W')
  (hQ:∀(D:Nat) (xs:List α) (W:World),w.heap.size<=D->S xs->St B0 w0 ι (mp xs) W->Marks (D::Ds) W->Q .normal {a with defers:={target:= .collected D,args:= #[]}::a.defers} W):
  (Code.rangeFunc g ps assign body).wpIn Fence.wide d P Q a w:=by
 have hsz:w0.heap.size<=w.heap.size:=hs.below.size
 have hown:OwnFrom w.heap.size (λpre W=>St B0 w0 ι (mp pre) W/\Marks Ds W/\∀D∈Ds,D<w.heap.size):=by
  rintro pre W W' row ⟨h1,h2,h3⟩ hgr hr;refine⟨h1.grown (hc pre) hsz hgr hr,λD hD=>?_,h3⟩;have hlt:D<W.heap.size:=(Array.getElem?_eq_some_iff.1 (h2 D hD)).1;rw[hgr.block D hlt λe=>?_]
  ·exact h2 D hD
  ·obtain⟨hB,_⟩:=hr D e.symm;have:=h3 D hD;omega
 have hDlt:∀D∈Ds,D<w.heap.size:=λD hD=>(Array.getElem?_eq_some_iff.1 (hDs D hD)).1
 refine wpIn_rangeFunc_ownG (F:=Fence.wide) rfl hd hg trivial eg hseq hKt hKb (Below.refl _ _) hps (λpre W=>St B0 w0 ι (mp pre) W/\Marks Ds W/\∀D∈Ds,D<w.heap.size) (λ_ _ _=>False) hown (λ_ _ _ _ _ hf _ _=>hf) ⟨h0▸hs,hDs,hDlt⟩ a₁ hassign ?_ ?_ ?_
 ·rintro l pre x W ⟨h1,h2,h3⟩ _;refine hbody l pre x W _ (by rintro⟨_,_,h⟩;exact h) h1 λa' W' hk hst=>?_;exact⟨hk.from _,hKp _ W W' hst,hst,h2.keeps hk,h3⟩
 ·rintro D xs W hD hS ⟨h1,h2,h3⟩ hk;refine hQ D xs W hD hS h1 λD' hD'=>?_;rcases List.mem_cons.1 hD' with rfl|hD'
  ·exact hk
  ·exact h2 D' hD'
 ·rintro D c pre W _ _ hf _;exact hf.elim
end
section
variable{P:Program}{K:TypeId->Bool}{B0:Nat}{w0 W:World}{ι:Ren}{M M':Mem}{t:AF}{a:Act}{h:H.Hint}{o:C1}{N d:Nat}{c:Code}{ds:List Nat}{vs:List Value}{qs:List Prop}{Q:Exit->Act->World->Prop}{e:Ex}
noncomputable def LO(h:H.Hint)(P:Program)(K:TypeId->Bool)(c:Code)(N:Nat)(ds:List Nat)(t:AF)(M:Mem):Option (H.TT (Ex×List Value×Mem)):=
 H.codeT h c P K 1 (H.callT h P K 1 20) (λbody _ k t m q=>Y.loopF body k t m q) N 20 t M λe t m=>some ((e,ds.map t.at,m),[],[])
theorem aT(h1:∀f v args m,h.call f=some v->h.says f args m v->o f args m=some (v,h.eff f m))(h2:∀f,h.call f=none->∀a m,o f a m=none)
  (hr:(LO h P K c N ds t M).map (λx=>(x.1,x.2.2))=some ((e,vs,M'),qs)) (hp:((LO h P K c N ds t M).map λx=>x.2.1.map Prod.fst)=((LO h P K c N ds t M).map λx=>x.2.1.map Prod.snd)) (hq:∀q∈qs,q):
  ∃t',AI P K 1 (CG P K 1 o 20) (AV P K 1 (CG P K 1 o 20) N) N 20 c t M=some (e,t',M')/\ds.map t'.at=vs:=by
 obtain⟨e',t',m',a1,a2⟩:=H.codeO_H (H:=h) (o:=o) (P:=P) (K:=K) (G:=1) (j:=20) (n:=N) (k:=20) (c:=c) (t:=t) (m:=M) (g:=λe t m=>(e,ds.map t.at,m)) h1 h2 hr hp hq
 have e1:e'=_:=congrArg (λx=>x.1) a2
 have e2:ds.map t'.at=_:=congrArg (λx=>x.2.1) a2
 have e3:m'=_:=congrArg (λx=>x.2.2) a2
 rw[e1,e3]at a1
 exact⟨t',a1,e2⟩
theorem D4(Bu:P.follows .mixedOrders=true)(hK:Plain P K)(Ed:PY P)(ho:CR P B0 1 o)(hg:B5 o)
  (h1:∀f v args m,h.call f=some v->h.says f args m v->o f args m=some (v,h.eff f m)) (h2:∀f,h.call f=none->∀a m,o f a m=none)
  (hr:(LO h P K c N ds t M).map (λx=>(x.1,x.2.2))=some ((e,vs,M'),qs)) (hp:((LO h P K c N ds t M).map λx=>x.2.1.map Prod.fst)=((LO h P K c N ds t M).map λx=>x.2.1.map Prod.snd)) (hq:∀q∈qs,q)
  (hs:St B0 w0 ι M W) (hc:GB M) (ht:Be ι N t a)
  (hQ:∀ι' a' W' t',St B0 w0 ι' M' W'->Be ι' N t' a'->ds.map t'.at=vs->a'.defers=a.defers->(∀b,b<M.size->ι' b=ι b)->FC W W'->Q e.to a' W'):c.wpIn Fence.wide d P Q a W:=by
 obtain⟨t',a1,a2⟩:=aT h1 h2 hr hp hq
 exact piece Bu hK (Co Bu hK Ed ho hg 20) (CK hg 20) a1 hs hc ht λι' a' W' g1 g2 g3 g4 g5=>hQ ι' a' W' t' g1 g2 a2 g3 g4 g5
theorem GO{l:Nat}(Bu:P.follows .mixedOrders=true)(hK:Plain P K)(Ed:PY P)(ho:CR P B0 1 o)(hg:B5 o)
  (h1:∀f v args m,h.call f=some v->h.says f args m v->o f args m=some (v,h.eff f m)) (h2:∀f,h.call f=none->∀a m,o f a m=none) (hfl:JI c=true)
  (hr:(LO h P K c N ds t M).map (λx=>(x.1,x.2.2))=some ((e,vs,M'),qs)) (hp:((LO h P K c N ds t M).map λx=>x.2.1.map Prod.fst)=((LO h P K c N ds t M).map λx=>x.2.1.map Prod.snd)) (hq:∀q∈qs,q)
  (hs:St B0 w0 ι M W) (hc:GB M) (ht:Be ι N t a) (hx:¬LetsOut Q)
  (hQ:∀ι' a' W' t',St B0 w0 ι' M' W'->Be ι' N t' a'->ds.map t'.at=vs->a'.defers=a.defers->(∀b,b<M.size->ι' b=ι b)->FC W W'->Q e.to a' W'):c.wpIn (FR l) d P Q a W:=by
 obtain⟨t',a1,a2⟩:=aT h1 h2 hr hp hq
 exact hP Bu hK (Co Bu hK Ed ho hg 20) (CK hg 20) hfl a1 hs hc ht hx λι' a' W' g1 g2 g3 g4 g5=>hQ ι' a' W' t' g1 g2 a2 g3 g4 g5
theorem Ga{t':AF}:∀{ds:List Nat} {vs:List Value},ds.map t'.at=vs->∀p∈ds.zip vs,t'.at p.1=p.2
 | [],_,_,p,hp=>by simp at hp
 |d::ds,[],h,p,hp=>by simp at h
 |d::ds,v::vs,h,p,hp=>by
  simp only[List.map_cons,List.cons.injEq]at h;simp only[List.zip_cons_cons,List.mem_cons]at hp;rcases hp with rfl|hp
  ·exact h.1
  ·exact Ga h.2 p hp
theorem Jg{l id:Nat}{op:Oper}{x:Operand}{K':Act->World->Prop}(hop:op.op= .assign x)(hg:op.guard=none)(hk:K' (a.put op.dst (a.eval x)) W):(Code.region id #[op] false).wpIn (FR l) d P (Exit.then K' (λ_ _ _=>False)) a W:=by
 refine wpIn_region ?_
 show wpOpsIn (FR l) d P #[op] _ [0] a W
 have e:Oper.semAt (FR l).round a.eval op=execOp a.eval op:=Oper.semAt_some l _ _ (by intro c hc;rw[hop]at hc;cases hc)
 refine V9 (o:=op) (v:=a.eval x) (w':=W) rfl hg (λ_=>trivial) (by rw[e];exact run_assign hop) ?_
 exact hk
theorem Be.setI(ht:Be ι N t a){p:Nat}(hp:p<N){v v':Value}(hv:AZ ι v v'):Be ι N (t.set p v) {a with tmps:=a.tmps.setIfInBounds p v'}:=ht.put hp hv
end
end
end Go.DI
namespace Go.DI
noncomputable section
section
variable{P:Program}{K:TypeId->Bool}{M M':Mem}{t:AF}{h:H.Hint}{o:C1}{N k:Nat}{c:Code}{ds:List Nat}{vs:List Value}{qs:List Prop}{e:Ex}
noncomputable def JJ(h:H.Hint)(P:Program)(K:TypeId->Bool)(k:Nat)(c:Code)(N:Nat)(ds:List Nat)(t:AF)(M:Mem):Option (H.TT (Ex×List Value×Mem)):=
 H.codeT h c P K 1 (H.callT h P K 1 20) (λbody _ k t m q=>Y.loopF body k t m q) N k t M λe t m=>some ((e,ds.map t.at,m),[],[])
theorem iA(h1:∀f v args m,h.call f=some v->h.says f args m v->o f args m=some (v,h.eff f m))(h2:∀f,h.call f=none->∀a m,o f a m=none)
  (hr:(JJ h P K k c N ds t M).map (λx=>(x.1,x.2.2))=some ((e,vs,M'),qs)) (hp:((JJ h P K k c N ds t M).map λx=>x.2.1.map Prod.fst)=((JJ h P K k c N ds t M).map λx=>x.2.1.map Prod.snd)) (hq:∀q∈qs,q):
  ∃t',AI P K 1 (CG P K 1 o 20) (AV P K 1 (CG P K 1 o 20) N) N k c t M=some (e,t',M')/\ds.map t'.at=vs:=by
 obtain⟨e',t',m',a1,a2⟩:=H.codeO_H (H:=h) (o:=o) (P:=P) (K:=K) (G:=1) (j:=20) (n:=N) (k:=k) (c:=c) (t:=t) (m:=M) (g:=λe t m=>(e,ds.map t.at,m)) h1 h2 hr hp hq
 have e1:e'=_:=congrArg (λx=>x.1) a2
 have e2:ds.map t'.at=_:=congrArg (λx=>x.2.1) a2
 have e3:m'=_:=congrArg (λx=>x.2.2) a2
 rw[e1,e3]at a1
 exact⟨t',a1,e2⟩
end
end
end Go.DI
namespace Go.Proofs.YtgjflcgmieiafaaGreatDoor
open Go Go.DI Go.DI.Kit Go.Proofs Go.Cmp
noncomputable section
noncomputable def c11:Code:=AM Tryz.f11
noncomputable def jG(i:Nat):Array Oper:=IQ c11 i
noncomputable def tH:Code:= .seq (.region 5 (jG 5) false) (.seq (.cond (.tmp 23) .skip (.exit 2)) (.seq (.block 3 (.seq (.region 6 (jG 6) false) (.seq (.region 7 (jG 7) false) (.cond (.tmp 30) (.exit 1) .skip)))) (.region 8 (jG 8) false)))
noncomputable def xD:Code:= .seq (.region 2 (jG 2) false) (.seq (.cond (.tmp 15) .skip (.exit 0)) (.seq (.block 1 (.seq (.region 3 (jG 3) false) (.seq (.seq (.region 4 (jG 4) false) (.block 2 (.loop tH))) (.seq (.region 9 (jG 9) false) .ret)))) (.region 10 (jG 10) false)))
structure jH(M:Mem)(pv:Value)(pk:List Int):Prop where
 top:M.top
 gl0:M.get 0= .cells false gl
 pos:1<=M.size
 pk:JU M pv pk
theorem jH.ext{M M':Mem}{pv:Value}{pk:List Int}(h:jH M pv pk)(x:Ext M M'):jH M' pv pk:=by
 have hz:0<M.size:=h.pos
 refine⟨x.top h.top,(x.get 0 hz).trans h.gl0,Nat.le_trans h.pos x.size,?_⟩
 rcases h.pk with g|⟨k,sp,cap,own,h1,h2,h3,h4,h5,h6⟩
 ·exact .inl g
 ·exact .inr ⟨k,sp,cap,own,h1,h2,h3,Nat.lt_of_lt_of_le h4 x.size,h5,(x.get k h4).trans h6⟩
noncomputable abbrev pK:EV:=CG Tryz.prog kp 1 xB 20
noncomputable abbrev yN(k:Nat):AF->Mem->Option (Ex×AF×Mem):=AI Tryz.prog kp 1 pK (AV Tryz.prog kp 1 pK 36) 36 k tH
end
end Go.Proofs.YtgjflcgmieiafaaGreatDoor
namespace Go.DI
noncomputable section
def Ep(n:Nat)(t:AF):Prop:=∃x,t=AB n x
def Gn(n:Nat):Prop:=∀(x:Nat->Value) (d:Nat) (v:Value),d<n->∃x',AF.set (AB n x) d v=AB n x'
section
variable{P:Program}{K:TypeId->Bool}{G n k:Nat}{cf:EV}
theorem Im(hs:Gn n){t:AF}{dst:Option Tmp}{v:Value}(h:Ep n t)(hd:HL n dst=true):Ep n (putD t dst v):=by
 cases dst with
 |none=>exact h
 |some d=>
  obtain⟨x,rfl⟩:=h;exact hs x d v (by simpa[HL]using hd)
theorem Io(hs:Gn n){ops:List Oper}:∀(l:List Oper) (t:AF) (m:Mem) (t':AF) (m':Mem),EM P K G cf n ops l t m=some (t',m')->Ep n t->Ep n t'
 | [],t,m,t',m',h,ht=>by simp[EM]at h;rw[←h.1];exact ht
 |o::l,t,m,t',m',h,ht=>by
  simp only[EM]at h;split at h<;>try (simp at h;done)
  rename_i hd;split at h
  ·split at h<;>try (simp at h;done)
   exact Io hs l _ _ _ _ h (Im hs ht hd)
  ·exact Io hs l _ _ _ _ h (Im hs ht hd)
theorem LH(hs:Gn n){ops:List Oper}:∀(l:List Oper) (t:AF) (m:Mem) (rs:List Rec) (t':AF) (m':Mem),HM P K G cf n ops l t m=some (rs,t',m')->Ep n t->Ep n t'
 | [],t,m,rs,t',m',h,ht=>by simp[HM]at h;rw[←h.2.1];exact ht
 |o::l,t,m,rs,t',m',h,ht=>by
  simp only[HM]at h;split at h<;>try (simp at h;done)
  rename_i hd;split at h
  ·split at h<;>try (simp at h;done)
   split at h<;>simp at h;rename_i h1;rw[←h.2.1];exact LH hs l _ _ _ _ _ h1 (Im hs ht hd)
  ·split at h<;>simp at h;rename_i h1;rw[←h.2.1];exact LH hs l _ _ _ _ _ h1 (Im hs ht hd)
theorem Te(hs:Gn n){l:List Oper}{t t':AF}{m m':Mem}(h:AV P K G cf n l t m=some (t',m'))(ht:Ep n t):Ep n t':=by
 unfold AV at h
 split at h<;>try (simp at h;done)
 split at h<;>try (simp at h;done)
 rename_i rs t₁ m₁ hrec
 split at h<;>try (simp at h;done)
 split at h<;>simp at h
 rw[←h.1]
 exact LH hs _ _ _ _ _ _ hrec ht
theorem NQ{b:AF->Mem->Option (Ex×AF×Mem)}(hb:∀t m e t' m',b t m=some (e,t',m')->Ep n t->Ep n t'):∀(k:Nat) (t:AF) (m:Mem) (e:Ex) (t':AF) (m':Mem),BT b k t m=some (e,t',m')->Ep n t->Ep n t'
 |0,t,m,e,t',m',h,_=>by simp[BT]at h
 |k+1,t,m,e,t',m',h,ht=>by
  simp only[BT]at h;split at h
  ·rename_i h1;exact NQ hb k _ _ _ _ _ h (hb _ _ _ _ _ h1 ht)
  ·exact hb _ _ _ _ _ h ht
theorem Tf(hs:Gn n):∀(c:Code) (t:AF) (m:Mem) (e:Ex) (t':AF) (m':Mem),AI P K G cf (AV P K G cf n) n k c t m=some (e,t',m')->Ep n t->Ep n t':=by
 intro c
 induction c with
 |skip=>intro t m e t' m' h ht;simp[AI]at h;rw[←h.2.1];exact ht
 |label l=>intro t m e t' m' h ht;simp[AI]at h;rw[←h.2.1];exact ht
 |region id ops draw=>
  intro t m e t' m' h ht;simp only[AI]at h;split at h<;>simp at h;rename_i h1;rw[←h.2.1];cases draw
  ·exact Io hs _ _ _ _ _ h1 ht
  ·exact Te hs h1 ht
 |seq x y ihx ihy=>
  intro t m e t' m' h ht;simp only[AI]at h;split at h
  ·rename_i h1;exact ihy _ _ _ _ _ h (ihx _ _ _ _ _ h1 ht)
  ·exact ihx _ _ _ _ _ h ht
 |cond c x y ihx ihy=>
  intro t m e t' m' h ht;simp only[AI]at h;split at h<;>try (simp at h;done)
  ·exact ihx _ _ _ _ _ h ht
  ·exact ihy _ _ _ _ _ h ht
 |block id c ih=>
  intro t m e t' m' h ht;simp only[AI]at h;split at h
  ·rename_i h1;split at h<;>simp at h<;>rw[←h.2.1] <;>exact ih _ _ _ _ _ h1 ht
  ·exact ih _ _ _ _ _ h ht
 |loop c ih=>intro t m e t' m' h ht;simp only[AI]at h;exact NQ (λt m e t' m' h=>ih t m e t' m' h) _ _ _ _ _ _ h ht
 |exit id=>intro t m e t' m' h ht;simp[AI]at h;rw[←h.2.1];exact ht
 |ret=>intro t m e t' m' h ht;simp[AI]at h;rw[←h.2.1];exact ht
 |rangeFunc=>intro t m e t' m' h;simp[AI]at h
 |scope c ih=>intro t m e t' m' h ht;simp only[AI]at h;exact ih _ _ _ _ _ h ht
 |goto=>intro t m e t' m' h;simp[AI]at h
 |refuse=>intro t m e t' m' h;simp[AI]at h
end
end
end Go.DI
namespace Go.DI
open Go.DI.Kit
noncomputable section
section
variable{P:Program}{K:TypeId->Bool}{M M':Mem}{h:H.Hint}{o:C1}{N k:Nat}{c:Code}{ds:List Nat}{vs:List Value}{qs:List Prop}{e:Ex}{x:Nat->Value}
theorem Ty{t:AF}:∀{ds:List Nat} {p:Nat×Value},p∈ds.zip (ds.map t.at)->p.1∈ds/\t.at p.1=p.2
 | [],p,h=>by simp at h
 |d::ds,p,h=>by
  rw[List.map_cons,List.zip_cons_cons]at h;rcases List.mem_cons.1 h with rfl|h
  ·exact⟨List.mem_cons_self ..,rfl⟩
  ·have:=Ty h;exact⟨List.mem_cons_of_mem _ this.1,this.2⟩
theorem B8(hs:Gn N)(hd:ds.all (λd=>Nat.blt d N)=true)(h1:∀f v args m,h.call f=some v->h.says f args m v->o f args m=some (v,h.eff f m))(h2:∀f,h.call f=none->∀a m,o f a m=none)
  (hr:(JJ h P K k c N ds (AB N x) M).map (λx=>(x.1,x.2.2))=some ((e,vs,M'),qs)) (hp:((JJ h P K k c N ds (AB N x) M).map λx=>x.2.1.map Prod.fst)=((JJ h P K k c N ds (AB N x) M).map λx=>x.2.1.map Prod.snd)) (hq:∀q∈qs,q):
  ∃x',AI P K 1 (CG P K 1 o 20) (AV P K 1 (CG P K 1 o 20) N) N k c (AB N x) M=some (e,AB N (up x' (ds.zip vs)),M'):=by
 obtain⟨t',a1,a2⟩:=iA h1 h2 hr hp hq
 obtain⟨y,rfl⟩:=Tf hs _ _ _ _ _ _ a1 ⟨x,rfl⟩
 refine⟨y,?_⟩
 rw[a1,up_self y (ds.zip vs) λp hp=>?_]
 rw[←a2]at hp
 have h3:=Ty hp
 have h4:p.1<N:=Nat.blt_eq▸(List.all_eq_true.1 hd p.1 h3.1)
 rw[GL,if_pos h4]at h3
 exact h3.2
variable{G:Nat}{cf:EV}{t t':AF}{m m':Mem}
theorem Jh(i:Nat)(c:Code)(he:e≠ .normal) (h:AI P K G cf (AV P K G cf N) N k (DM ((items c).take i)) t m=some (e,t',m')):
  AI P K G cf (AV P K G cf N) N k c t m=some (e,t',m'):=by
 rw[IK c,←List.take_append_drop i (items c),FH,←CI,h]
 cases e with
 |normal=>exact absurd rfl he
 |exit id=>rfl
 |ret=>rfl
theorem Ck{b:AF->Mem->Option (Ex×AF×Mem)}{t1:AF}{m1:Mem}{r:Option (Ex×AF×Mem)}(h1:b t m=some (.normal,t1,m1))(h2:BT b k t1 m1=r):BT b (k+1) t m=r:=by
 simp only[BT,h1,h2]
theorem CY{b:AF->Mem->Option (Ex×AF×Mem)}(h1:b t m=some (e,t',m'))(he:e≠ .normal):BT b (k+1) t m=some (e,t',m'):=by
 simp only[BT,h1]
 cases e with
 |normal=>exact absurd rfl he
 |exit j=>rfl
 |ret=>rfl
theorem aU{a b:Code}{id:Nat}(h:AI P K G cf (AV P K G cf N) N k a t m=some (.normal,t',m')):AI P K G cf (AV P K G cf N) N k (.seq (.block id a) b) t m=AI P K G cf (AV P K G cf N) N k b t' m':=by
 have hb:AI P K G cf (AV P K G cf N) N k (.block id a) t m=some (.normal,t',m'):=by simp only[AI,h]
 rw[AI,hb]
theorem aV{a b:Code}{id:Nat}(h:AI P K G cf (AV P K G cf N) N k a t m=some (e,t',m'))(he:e≠ .normal)(hi:e≠ .exit id):AI P K G cf (AV P K G cf N) N k (.seq (.block id a) b) t m=some (e,t',m'):=by
 have hb:AI P K G cf (AV P K G cf N) N k (.block id a) t m=some (e,t',m'):=by
  simp only[AI,h];cases e with
  |normal=>exact absurd rfl he
  |exit j=>exact if_neg λh=>hi (by rw[h])
  |ret=>rfl
 rw[AI,hb]
 cases e with
 |normal=>exact absurd rfl he
 |exit j=>rfl
 |ret=>rfl
theorem Ix(i:Nat)(c:Code){id:Nat}{lb:Code}{rest:List Code}{t1 t2:AF}{M0 M1 M2:Mem}(hd:(items c).drop i= .block id (.loop lb)::rest) (h1:AI P K G cf (AV P K G cf N) N k (DM ((items c).take i)) t M0=some (.normal,t1,M1))
  (h2:BT (AI P K G cf (AV P K G cf N) N k lb) k t1 M1=some (.exit id,t2,M2)):AI P K G cf (AV P K G cf N) N k c t M0=AI P K G cf (AV P K G cf N) N k (DM rest) t2 M2:=by
 rw[Iq i c h1,CI,hd]
 have hb:AI P K G cf (AV P K G cf N) N k (.block id (.loop lb)) t1 M1=some (.normal,t2,M2):=by
  simp only[AI,h2,if_true]
 simp only[G8,hb,CI]
theorem Ni(i:Nat)(c:Code){id:Nat}{lb:Code}{rest:List Code}{t1 t2:AF}{M0 M1 M2:Mem}(hd:(items c).drop i= .block id (.loop lb)::rest) (h1:AI P K G cf (AV P K G cf N) N k (DM ((items c).take i)) t M0=some (.normal,t1,M1))
  (h2:BT (AI P K G cf (AV P K G cf N) N k lb) k t1 M1=some (e,t2,M2)) (he:e≠ .normal) (hi:e≠ .exit id):AI P K G cf (AV P K G cf N) N k c t M0=some (e,t2,M2):=by
 rw[Iq i c h1,CI,hd]
 have hb:AI P K G cf (AV P K G cf N) N k (.block id (.loop lb)) t1 M1=some (e,t2,M2):=by
  simp only[AI,h2];cases e with
  |normal=>exact absurd rfl he
  |exit j=>exact if_neg λh=>hi (by rw[h])
  |ret=>rfl
 simp only[G8,hb]
 cases e with
 |normal=>exact absurd rfl he
 |exit j=>rfl
 |ret=>rfl
theorem GP{f:FuncId}{fn:Func}{args vs:List Value}{M0 M1:Mem}(hf:P.funcs[f]?=some fn)(hc:fn.body=some c)(hn:max args.length fn.ntmps=N)
  (h:AI P K G cf (AV P K G cf N) N k c (AB N (Bv args)) M0=some (.ret,t,M1)) (hr:DK P t M1 fn.results.toList=some vs):Cu P K G cf k f args M0=some (F6 vs,M1):=by
 unfold Cu
 rw[hf]
 simp only
 rw[hc]
 simp only
 rw[hn,h]
 simp only[Tt,hr]
end
end
end Go.DI
namespace Go.Proofs.YtgjflcgmieiafaaGreatDoor
open Go Go.DI Go.DI.Kit Go.Proofs Go.Cmp
noncomputable section
theorem bm{X:Type}{g:X->List Value}{z:Nat}(hz:∀x,(g x).length=z){l:List X}{j:Nat}{x:X}(h:l[j]?=some x){own:Bool}{rest:List Value}{B:BI}(hB:B= .cells own (l.flatMap g++rest)):H.ldOk B (Nat.add 0 (Nat.mul j z)) true z (.agg ⟨g x⟩):=by
 subst hB
 refine⟨g x,?_,rfl⟩
 have h1:=Cf hz h rest
 have h2:=Cs hz (List.getElem?_eq_some_iff.1 h).1 rest
 rw[Y.lenLF_eq]at h2
 show(if Nat.add 0 (Nat.mul j z)+z<=(l.flatMap g++rest).length then some (((l.flatMap g++rest).drop (Nat.add 0 (Nat.mul j z))).take z)else none)=_
 rw[if_pos (show Nat.add 0 (Nat.mul j z)+z<=(l.flatMap g++rest).length from Nat.le_of_ble_eq_true h2),←h1,Y.subL_eq]
theorem Q9{c:List Value}{n:Nat}{own:Bool}(h:c.length=n):H.ldOk (.cells own c) 0 true n (.agg ⟨c⟩):=by
 refine⟨c,?_,rfl⟩
 show(if 0+n<=c.length then some ((c.drop 0).take n)else none)=_
 rw[if_pos (by omega),List.drop_zero,List.take_of_length_le (by omega)]
theorem OA{i n:Nat}(h:i<n):B6 Tryz.prog kp .lss 3 (.int .i64 (i:Int)) (.int .i64 (Int.ofNat n))=some (.bool true):=by
 simp[B6,Ba,Bc];omega
theorem OB{i n:Nat}(h:¬i<n):B6 Tryz.prog kp .lss 3 (.int .i64 (i:Int)) (.int .i64 (Int.ofNat n))=some (.bool false):=by
 simp[B6,Ba,Bc];omega
theorem Ka{i:Nat}(h:i<1000000):IntKind.wrap .i64 (Int.add (i:Int) 1)=((i+1:Nat):Int):=by
 show IntKind.wrap .i64 ((i:Int)+1)=_
 rw[wrap_i64 ⟨by omega,by omega⟩]
 omega
theorem S9{X:Type}{l:List X}{j:Nat}{x:X}(h:l[j]?=some x):l.drop j=x::l.drop (j+1):=by
 obtain⟨hj,e⟩:=List.getElem?_eq_some_iff.1 h
 rw[List.drop_eq_getElem_cons hj,e]
theorem IY{M:Mem}{j:Nat}{x:BI}(h:Bm M j=some x):j<M.size/\M.get j=x:=by
 unfold Bm at h
 split at h
 ·rename_i h1;cases h;exact⟨h1,rfl⟩
 ·cases h
section
variable{M:Mem}{pv rv tv9:Value}{pk:List Int}{port i rn i14:Int}{tb cap:Nat}{sp:Option Nat}{ts:List A8}{rest:List Value}{own:Bool}{t:A8}
end
theorem IZ{M M':Mem}(h:Ext M M'):∀j x,Bm M j=some x->Bm M' j=some x:=λj x hj=>by
 obtain⟨h1,h2⟩:=IY hj
 unfold Bm
 rw[if_pos (Nat.lt_of_lt_of_le h1 h.size),h.get j h1,h2]
noncomputable abbrev yO(k:Nat):AF->Mem->Option (Ex×AF×Mem):=AI Tryz.prog kp 1 pK (AV Tryz.prog kp 1 pK 36) 36 k xD
section
variable{M:Mem}{pv v:Value}{pk:List Int}{port:Int}{rb cap:Nat}{sp:Option Nat}{vr:List (Value×BA)}{rest:List Value}{own:Bool}{r:BA}
end
def yP(rs:List BA):Prop:=rs.length<=100/\∀r∈rs,r.tests.length<=100/\∀t∈r.tests,Dg t=true/\Dh t
noncomputable def Wf:Code:=AM Tryz.f32
noncomputable def tj:Code:=match(items Wf)[10]? with|some c=>c|none=> .skip
noncomputable def cK:Code:=match tj with| .block _ (.loop c)=>c|_=> .skip
theorem cL:(items Wf).drop 10= .block 0 (.loop cK)::(items Wf).drop 11:=by kernel_rfl
noncomputable def YK(lt ge le14:Bool)(B kind pos size mask:Int):H.Hint where
 ix t:=Nat.beq t 23
 ld _ t off:=cond (Nat.beq t 5) (some (.int .u8 B)) (cond (Nat.beq t 3) (cond (Nat.beq off 1) (some (.int .i64 kind)) (cond (Nat.beq off 2) (some (.int .i64 pos)) (some (.int .i64 size)))) (cond (Nat.beq t 38) (some (.int .u64 mask)) none))
 cmp op t:=cond (Nat.beq t 3) (BinOp.rec (motive:=λ_=>Option Bool) none none none none none none none none none none none none none (some lt) (some le14) none (some ge) op) none
 ap _:=none
 call _:=none
 spec _ _ _ _:=False
 blk:=0
noncomputable def mA(M:Mem)(tv:List Value):Mem:=M.push (.cells true tv)
noncomputable def Y7(z:Nat)(M:Mem)(kind:Int):Prop:=H.ldOk (M.get z) (Nat.add 0 1) false 1 (.int .i64 kind)
noncomputable def tk:List Nat:= [1,3,8,9,10]
noncomputable def Lq(pv:Value)(z:Nat)(at_ n i:Int):List (Nat×Value):=tk.zip [pv, .pointer (some ⟨z,0,none⟩), .int .i64 at_, .int .u64 n, .int .i64 i]
section
variable(k:Nat)(x:Nat->Value)(neg:Bool)(kind pos size mask lo hi port B at_ n i:Int)(a:Option Addr)(np cap z:Nat)(M:Mem)
theorem pw:
  Rn (JJ (YK true true true 0 1 0 0 0) Tryz.prog kp k Wf 65 [6,7] (AB 65 (Bv [.agg ⟨AQ neg 1 pos size mask lo hi⟩, .slice a np cap, .int .u32 port])) M) ((.ret,[.int .u64 (IntKind.wrap .u64 (Int.ofNat np)), .bool true],mA M (AQ neg 1 pos size mask lo hi)),[Y7 M.size (mA M (AQ neg 1 pos size mask lo hi)) 1]):=⟨by kernel_rfl,by kernel_rfl⟩
theorem px:
  Rn (JJ (YK true true true 0 2 0 0 0) Tryz.prog kp k Wf 65 [6,7] (AB 65 (Bv [.agg ⟨AQ neg 2 pos size mask lo hi⟩, .slice a np cap, .int .u32 port])) M) ((.ret,[.int .u64 (IntKind.wrap .u64 port), .bool true],mA M (AQ neg 2 pos size mask lo hi)),[Y7 M.size (mA M (AQ neg 2 pos size mask lo hi)) 2,Y7 M.size (mA M (AQ neg 2 pos size mask lo hi)) 2]):=⟨by kernel_rfl,by kernel_rfl⟩
theorem py:
  Rn (JJ (YK true true true 0 3 pos 0 0) Tryz.prog kp k (DM ((items Wf).take 10)) 65 tk (AB 65 (Bv [.agg ⟨AQ neg 3 pos size mask lo hi⟩, .slice a np cap, .int .u32 port])) M) ((.normal,[.slice a np cap, .pointer (some ⟨M.size,0,none⟩), .int .i64 pos, .int .u64 0, .int .i64 0],mA M (AQ neg 3 pos size mask lo hi)),
    [Y7 M.size (mA M (AQ neg 3 pos size mask lo hi)) 3,Y7 M.size (mA M (AQ neg 3 pos size mask lo hi)) 3,H.ldOk ((mA M (AQ neg 3 pos size mask lo hi)).get M.size) (Nat.add 0 2) false 1 (.int .i64 pos),Y7 M.size (mA M (AQ neg 3 pos size mask lo hi)) 3]):=⟨by kernel_rfl,by kernel_rfl⟩
theorem jT:
  Rn (JJ (YK true true true 0 4 pos 0 0) Tryz.prog kp k (DM ((items Wf).take 10)) 65 [6,7] (AB 65 (Bv [.agg ⟨AQ neg 4 pos size mask lo hi⟩, .slice a np cap, .int .u32 port])) M) ((.ret,[.int .u64 0, .bool false],mA M (AQ neg 4 pos size mask lo hi)),
    [Y7 M.size (mA M (AQ neg 4 pos size mask lo hi)) 4,Y7 M.size (mA M (AQ neg 4 pos size mask lo hi)) 4,H.ldOk ((mA M (AQ neg 4 pos size mask lo hi)).get M.size) (Nat.add 0 2) false 1 (.int .i64 pos),Y7 M.size (mA M (AQ neg 4 pos size mask lo hi)) 4,B6 Tryz.prog kp .leq 3 (.int .i64 (Int.ofNat np)) (.int .i64 14)=some (.bool true)]):=⟨by kernel_rfl,by kernel_rfl⟩
noncomputable def qA(pos B:Int):Int:=IntKind.wrap .i64 (Int.add (IntKind.wrap .i64 (Int.add pos 14)) (IntKind.wrap .i64 (Int.mul 4 (IntKind.wrap .i64 (Int.tmod B 16)))))
theorem qC(pb:Nat)(sp:Option Nat):
  Rn (JJ (YK true true false B 4 pos 0 0) Tryz.prog kp k (DM ((items Wf).take 10)) 65 tk (AB 65 (Bv [.agg ⟨AQ neg 4 pos size mask lo hi⟩, .slice (some ⟨pb,0,sp⟩) np cap, .int .u32 port])) M) ((.normal,[.slice (some ⟨pb,0,sp⟩) np cap, .pointer (some ⟨M.size,0,none⟩), .int .i64 (qA pos B), .int .u64 0, .int .i64 0],mA M (AQ neg 4 pos size mask lo hi)),
    [Y7 M.size (mA M (AQ neg 4 pos size mask lo hi)) 4,Y7 M.size (mA M (AQ neg 4 pos size mask lo hi)) 4,H.ldOk ((mA M (AQ neg 4 pos size mask lo hi)).get M.size) (Nat.add 0 2) false 1 (.int .i64 pos),Y7 M.size (mA M (AQ neg 4 pos size mask lo hi)) 4,B6 Tryz.prog kp .leq 3 (.int .i64 (Int.ofNat np)) (.int .i64 14)=some (.bool false),(0<=(14:Int)/\(14:Int)< (np:Int)),H.ldOk ((mA M (AQ neg 4 pos size mask lo hi)).get pb) (Nat.add 0 (Nat.mul 14 1)) false 1 (.int .u8 B)]):=⟨by kernel_rfl,by kernel_rfl⟩
noncomputable def ud(z:Nat)(M:Mem)(size:Int):Prop:=H.ldOk (M.get z) (Nat.add 0 3) false 1 (.int .i64 size)
theorem tq:
  Rn (JJ (YK false true false 0 0 0 size 0) Tryz.prog kp k cK 65 tk (AB 65 (up x (Lq (.slice a np cap) z at_ n i))) M) ((.exit 0,[.slice a np cap, .pointer (some ⟨z,0,none⟩), .int .i64 at_, .int .u64 n, .int .i64 i],M),[ud z M size,B6 Tryz.prog kp .lss 3 (.int .i64 i) (.int .i64 size)=some (.bool false)]):=⟨by kernel_rfl,by kernel_rfl⟩
noncomputable def rB(at_ i:Int)(np:Nat)(b:Bool):Prop:=B6 Tryz.prog kp .geq 3 (.int .i64 (IntKind.wrap .i64 (Int.add at_ i))) (.int .i64 (Int.ofNat np))=some (.bool b)
theorem tt:
  Rn (JJ (YK true true false 0 0 0 size 0) Tryz.prog kp k cK 65 [6,7] (AB 65 (up x (Lq (.slice a np cap) z at_ n i))) M) ((.ret,[.int .u64 0, .bool false],M),[ud z M size,B6 Tryz.prog kp .lss 3 (.int .i64 i) (.int .i64 size)=some (.bool true),rB at_ i np true]):=⟨by kernel_rfl,by kernel_rfl⟩
theorem tu(pb:Nat)(sp:Option Nat):
  Rn (JJ (YK true false false B 0 0 size 0) Tryz.prog kp k cK 65 tk (AB 65 (up x (Lq (.slice (some ⟨pb,0,sp⟩) np cap) z at_ n i))) M) ((.normal,[.slice (some ⟨pb,0,sp⟩) np cap, .pointer (some ⟨z,0,none⟩), .int .i64 at_, .int .u64 (IntKind.wrap .u64 (Int.add (IntKind.wrap .u64 (Int.mul 256 n)) (IntKind.wrap .u64 B))), .int .i64 (IntKind.wrap .i64 (Int.add i 1))],M),
    [ud z M size,B6 Tryz.prog kp .lss 3 (.int .i64 i) (.int .i64 size)=some (.bool true),rB at_ i np false,(0<=IntKind.wrap .i64 (Int.add at_ i)/\IntKind.wrap .i64 (Int.add at_ i)< (np:Int)),H.ldOk (M.get pb) (Nat.add 0 (Nat.mul (IntKind.wrap .i64 (Int.add at_ i)).toNat 1)) false 1 (.int .u8 B)]):=⟨by kernel_rfl,by kernel_rfl⟩
theorem tw:
  Rn (JJ (YK true false false 0 0 0 0 mask) Tryz.prog kp k (DM ((items Wf).drop 11)) 65 [6,7] (AB 65 (up x (Lq (.slice a np cap) z at_ n i))) M) ((.ret,[.int .u64 (sj n mask), .bool true],M),[H.ldOk (M.get z) (Nat.add 0 4) false 1 (.int .u64 mask)]):=⟨by kernel_rfl,by kernel_rfl⟩
end
theorem Kc:Gn 65:=by
 intro x d v hd
 refine⟨up x [(d,v)],?_⟩
 iterate 65 (rcases d with _|d;· kernel_rfl)
 omega
theorem Hd{lt ge le14:Bool}{B kind pos size mask:Int}(f:FuncId)(v:Value)(args:List Value)(m:Mem)(hc:(YK lt ge le14 B kind pos size mask).call f=some v)(hs:(YK lt ge le14 B kind pos size mask).says f args m v):Hi f args m=some (v,(YK lt ge le14 B kind pos size mask).eff f m):=hs.elim
theorem Ft{lt ge le14:Bool}{B kind pos size mask:Int}(f:FuncId)(hc:(YK lt ge le14 B kind pos size mask).call f=none)(a:List Value)(m:Mem):Hi f a m=none:=rfl
theorem YL{n b:Int}(h:0<=n/\n<72057594037927936)(hb:0<=b/\b<256):IntKind.wrap .u64 (Int.add (IntKind.wrap .u64 (Int.mul 256 n)) (IntKind.wrap .u64 b))=256*n+b:=by
 have e1:IntKind.wrap .u64 (Int.mul 256 n)=256*n:=IntWalk.u64_in _ (by show 0<=256*n/\256*n<=18446744073709551615;omega)
 have e2:IntKind.wrap .u64 b=b:=IntWalk.u64_in _ (by omega)
 rw[e1,e2]
 exact IntWalk.u64_in _ (by show 0<=256*n+b/\256*n+b<=18446744073709551615;omega)
theorem Qd{a i:Nat}(h:a+i<=1000000):IntKind.wrap .i64 (Int.add (a:Int) (i:Int))=((a+i:Nat):Int):=by
 show IntKind.wrap .i64 ((a:Int)+(i:Int))=_
 rw[wrap_i64 ⟨by omega,by omega⟩];omega
theorem tx{a i np:Nat}(h:a+i<=1000000)(hge:np<=a+i):rB (a:Int) (i:Int) np true:=by
 unfold rB;rw[Qd h];simp[B6,Ba,Bc];omega
theorem qD{a i np:Nat}(h:a+i<=1000000)(hge:a+i<np):rB (a:Int) (i:Int) np false:=by
 unfold rB;rw[Qd h];simp[B6,Ba,Bc];omega
noncomputable abbrev lX(k:Nat):AF->Mem->Option (Ex×AF×Mem):=AI Tryz.prog kp 1 Jb (AV Tryz.prog kp 1 Jb 65) 65 k cK
def jU(M:Mem)(ap:Option Addr)(pk:List Int):Prop:=pk≠ []->∃pb sp own,ap=some ⟨pb,0,sp⟩/\pb<M.size/\M.get pb= .cells own (AN pk)
theorem JU.as{M:Mem}{pv:Value}{pk:List Int}(h:JU M pv pk):∃ap cap,pv= .slice ap pk.length cap/\jU M ap pk:=by
 rcases h with⟨rfl,rfl⟩|⟨k,sp,cap,own,rfl,h1,h2,h3,h4,h5⟩
 ·exact⟨none,0,rfl,λh=>absurd rfl h⟩
 ·exact⟨_,cap,rfl,λ_=>⟨k,sp,own,rfl,h3,h5⟩⟩
theorem Wg{pk:List Int}{B:BI}{own:Bool}{j:Nat}{b:Int}(h:B= .cells own (AN pk))(hj:pk[j]?=some b):H.ldOk B (Nat.add 0 (Nat.mul j 1)) false 1 (.int .u8 b):=by
 subst h
 show(AN pk)[Nat.add 0 (Nat.mul j 1)]?=_
 have e:Nat.add 0 (Nat.mul j 1)=j:=by show 0+j*1=j;omega
 rw[e]
 unfold AN
 rw[List.getElem?_map,hj]
 rfl
theorem cM{n m:Nat}(h:n<=m):(256:Int) ^ n<=256 ^ m:=by
 have h1:=Nat.pow_le_pow_right (show 0<256 by decide) h
 have h3:((256 ^ n:Nat):Int)<=((256 ^ m:Nat):Int):=Int.ofNat_le.2 h1
 rw[Int.natCast_pow,Int.natCast_pow]at h3
 exact h3
theorem YM{pk:List Int}{a i:Nat}(hb:∀b∈pk,0<=b/\b<256)(hi:i<=7):0<=Ho (cut pk a i)/\Ho (cut pk a i)<72057594037927936:=by
 have h:=I7 (cut pk a i) λx hx=>hb x (List.mem_of_mem_drop (List.mem_of_mem_take hx))
 refine⟨h.1,Int.lt_of_lt_of_le h.2 ?_⟩
 have hl:(cut pk a i).length<=7:=by
  unfold cut;rw[List.length_take];omega
 exact Int.le_trans (cM hl) (by decide)
section
variable{M:Mem}{ap:Option Addr}{pk:List Int}{cap zb a z:Nat}
theorem Wh(hb:∀b∈pk,0<=b/\b<256)(hn:pk.length<=65535)(hpk:jU M ap pk)(ha:a<=1000)(hz:z<=8)(hsz:ud zb M (z:Int))(kk:Nat):
  ∀(d i:Nat),z=i+d->∀(jj:Nat) (x:Nat->Value),d+1<=jj->(a+i<=pk.length\/i=0)->
  (a+z<=pk.length/\∃x',BT (lX kk) jj (AB 65 (up x (Lq (.slice ap pk.length cap) zb (a:Int) (Ho (cut pk a i)) (i:Int)))) M=some (.exit 0,AB 65 (up x' (Lq (.slice ap pk.length cap) zb (a:Int) (Ho (cut pk a z)) (z:Int))),M))\/
  (¬a+z<=pk.length/\∃x',BT (lX kk) jj (AB 65 (up x (Lq (.slice ap pk.length cap) zb (a:Int) (Ho (cut pk a i)) (i:Int)))) M=some (.ret,AB 65 (up x' [(6, .int .u64 0),(7, .bool false)]),M))\/(z=0)
 |0,i,hi,jj,x,hjj,hinv=>by
  obtain⟨jj,rfl⟩:∃j',jj=j'+1:=⟨jj - 1,by omega⟩;obtain rfl:z=i:=by omega
  by_cases h0:z=0
  ·exact .inr (.inr h0)
  refine .inl ⟨by omega,?_⟩;obtain⟨q1,q2⟩:=tq kk x (z:Int) (a:Int) (Ho (cut pk a z)) (z:Int) ap pk.length cap zb M;obtain⟨x1,h1⟩:=B8 Kc rfl Hd Ft q1 q2 (AA hsz (AA (OB (Nat.lt_irrefl z)) AT));exact⟨x1,CY h1 (by simp)⟩
 |d+1,i,hi,jj,x,hjj,hinv=>by
  obtain⟨jj,rfl⟩:∃j',jj=j'+1:=⟨jj - 1,by omega⟩;by_cases hlt:a+i<pk.length
  ·obtain⟨b,hbv⟩:∃b,pk[a+i]?=some b:=⟨_,List.getElem?_eq_getElem hlt⟩;obtain⟨pb,sp,own,hap,hpb,gpb⟩:=hpk (by intro h;rw[h]at hlt;simp at hlt);have hbr:=hb b (List.mem_of_getElem? hbv);obtain⟨q1,q2⟩:=tu kk x (z:Int) b (a:Int) (Ho (cut pk a i)) (i:Int) pk.length cap zb M pb sp;have ead:=Qd (a:=a) (i:=i) (by omega);obtain⟨x1,h1⟩:=B8 Kc rfl Hd Ft q1 q2 (AA hsz (AA (OA (i:=i) (n:=z) (by omega)) (AA (qD (by omega) hlt) (AA (by rw[ead];omega) (AA (by rw[ead];exact Wg gpb hbv) AT)))));have hcb:=YM (a:=a) (i:=i) hb (by omega)
   have ecut:IntKind.wrap .u64 (Int.add (IntKind.wrap .u64 (Int.mul 256 (Ho (cut pk a i)))) (IntKind.wrap .u64 b))=Ho (cut pk a (i+1)):=by
    rw[YL hcb hbr];unfold cut;rw[Ya (b:=b) (by rw[List.getElem?_drop];exact hbv)]
   rw[ecut,Ka (by omega),←hap]at h1;rcases Wh hb hn hpk ha hz hsz kk d (i+1) (by omega) jj x1 (by omega) (.inl (by omega))with⟨g,x2,h2⟩|⟨g,x2,h2⟩|h2
   ·exact .inl ⟨g,x2,Ck h1 h2⟩
   ·exact .inr (.inl ⟨g,x2,Ck h1 h2⟩)
   ·omega
  ·refine .inr (.inl ⟨by omega,?_⟩);obtain⟨q1,q2⟩:=tt kk x (z:Int) (a:Int) (Ho (cut pk a i)) (i:Int) ap pk.length cap zb M;obtain⟨x1,h1⟩:=B8 Kc rfl Hd Ft q1 q2 (AA hsz (AA (OA (i:=i) (n:=z) (by omega)) (AA (tx (by omega) (by omega)) AT)));exact⟨x1,CY h1 (by simp)⟩
end
theorem Sb:Tryz.prog.funcs[32]?=some Tryz.f32:=by kernel_rfl
theorem cN:Tryz.f32.body=some Wf:=by kernel_rfl
theorem jV:Tryz.f32.ntmps=65:=by kernel_rfl
theorem Sc(x:Nat->Value)(a b:Value)(M:Mem):DK Tryz.prog (AB 65 (up x [(6,a),(7,b)])) M Tryz.f32.results.toList=some [a,b]:=by kernel_rfl
theorem AG{M:Mem}{c:List Value}{j:Nat}{v:Value}(h:c[j]?=some v):H.ldOk ((mA M c).get M.size) (Nat.add 0 j) false 1 v:=by
 unfold mA
 rw[Mem.get_push_same]
 show c[Nat.add 0 j]?=_
 rw[show Nat.add 0 j=j from Nat.zero_add j]
 exact h
theorem jW{b:Int}{pos:Nat}(h:0<=b/\b<256)(hp:pos<=255):qA (pos:Int) b=((14+4*(b % 16).toNat+pos:Nat):Int):=by
 unfold qA
 have e0:Int.tmod b 16=b % 16:=Int.tmod_eq_emod_of_nonneg h.1
 rw[e0]
 have qE:0<=b % 16/\b % 16<16:=by omega
 have e1:IntKind.wrap .i64 (b % 16)=b % 16:=wrap_i64 ⟨by omega,by omega⟩
 have e2:IntKind.wrap .i64 (Int.mul 4 (b % 16))=4*(b % 16):=wrap_i64 (x:=4*(b % 16)) ⟨by omega,by omega⟩
 have e3:IntKind.wrap .i64 (Int.add (pos:Int) 14)=pos+14:=wrap_i64 (x:=(pos:Int)+14) ⟨by omega,by omega⟩
 have e4:IntKind.wrap .i64 (Int.add ((pos:Int)+14) (4*(b % 16)))=pos+14+4*(b % 16):=wrap_i64 (x:=(pos:Int)+14+4*(b % 16)) ⟨by omega,by omega⟩
 rw[e1,e2,e3,e4]
 omega
theorem cO{M:Mem}{ap:Option Addr}{pk:List Int}{cap a z:Nat}{args:List Value}{neg:Bool}{kind pos mask lo hi:Int}{x1:Nat->Value}(hl:args.length=3)(hb:∀b∈pk,0<=b/\b<256)(hn:pk.length<=65535)(hpk:jU M ap pk)(ha:a<=1000)(hz:z<=8)(hz0:0<z)(hmask:u64 mask)
  (h1:AI Tryz.prog kp 1 Jb (AV Tryz.prog kp 1 Jb 65) 65 600 (DM ((items Wf).take 10)) (AB 65 (Bv args)) M=some (.normal,AB 65 (up x1 (Lq (.slice ap pk.length cap) M.size (a:Int) 0 0)),mA M (AQ neg kind pos (z:Int) mask lo hi))):
  Cu Tryz.prog kp 1 Jb 600 32 args M=some (if a+z<=pk.length then .tuple ⟨[.int .u64 (DZ (Ho (cut pk a z)) mask), .bool true]⟩else .tuple ⟨[.int .u64 0, .bool false]⟩,mA M (AQ neg kind pos (z:Int) mask lo hi)):=by
 have hx:Ext M (mA M (AQ neg kind pos (z:Int) mask lo hi)):=Ext.push _ _
 have hpk':jU (mA M (AQ neg kind pos (z:Int) mask lo hi)) ap pk:=λh=>by
  obtain⟨pb,sp,own,q1,q2,q3⟩:=hpk h;exact⟨pb,sp,own,q1,Nat.lt_of_lt_of_le q2 hx.size,(hx.get pb q2).trans q3⟩
 have hnn:max args.length Tryz.f32.ntmps=65:=by rw[hl,jV];rfl
 have hcut0:Ho (cut pk a 0)=0:=by unfold cut;rw[List.take_zero];rfl
 rcases Wh (cap:=cap) hb hn hpk' ha hz (AG (M:=M) (c:=AQ neg kind pos (z:Int) mask lo hi) (j:=3) rfl) 600 z 0 (by omega) 600 x1 (by omega) (.inr rfl)with⟨g,x2,h2⟩|⟨g,x2,h2⟩|h2
 ·rw[hcut0]at h2;rw[if_pos g];obtain⟨q1,q2⟩:=tw 600 x2 mask (a:Int) (Ho (cut pk a z)) (z:Int) ap pk.length cap M.size (mA M (AQ neg kind pos (z:Int) mask lo hi));obtain⟨x3,h3⟩:=B8 Kc rfl Hd Ft q1 q2 (AA (AG (M:=M) (c:=AQ neg kind pos (z:Int) mask lo hi) (j:=4) rfl) AT);have hbn:=I7 (cut pk a z) λx hx=>hb x (List.mem_of_mem_drop (List.mem_of_mem_take hx));have hcl:(cut pk a z).length<=8:=by unfold cut;rw[List.length_take];omega
  have hle:(256:Int) ^ (cut pk a z).length<=256 ^ 8:=cM hcl;have hu:u64 (Ho (cut pk a z)):=⟨hbn.1,Int.lt_of_lt_of_le hbn.2 hle⟩;rw[iw hu hmask]at h3;exact GP Sb cN hnn ((Ix 10 Wf cL h1 h2).trans h3) (Sc ..)
 ·rw[hcut0]at h2;rw[if_neg g];exact GP Sb cN hnn (Ni 10 Wf cL h1 h2 (by simp) (by simp)) (Sc ..)
 ·omega
theorem YN{M:Mem}{t:A8}{pk:List Int}{pv:Value}{port:Int}(hm:Dg t=true)(hr:Dh t)(hb:∀b∈pk,0<=b/\b<256)(hn:pk.length<=65535)(hpk:JU M pv pk)(hp:0<=port/\port<4294967296):
  Cu Tryz.prog kp 1 Jb 600 32 [.agg ⟨AX t⟩,pv, .int .u32 port] M=some (match Dl t pk port with|some n=> .tuple ⟨[.int .u64 n, .bool true]⟩|none=> .tuple ⟨[.int .u64 0, .bool false]⟩,mA M (AX t)):=by
 have hk:=YH hm
 have hmask:=hr.mask
 obtain⟨ap,cap,rfl,hpa⟩:=hpk.as
 obtain⟨neg,kind,pos,size,mask,lo,hi⟩:=t
 have etc:AX ⟨neg,kind,pos,size,mask,lo,hi⟩=AQ neg kind pos size mask lo hi:=rfl
 rw[etc]
 simp only at hk hmask
 rcases hk with(rfl|rfl)|⟨hk,hz,hp0,hp1⟩
 ·obtain⟨q1,q2⟩:=pw 600 neg pos size mask lo hi port ap pk.length cap M;obtain⟨x1,h1⟩:=B8 (x:=Bv [.agg ⟨AQ neg 1 pos size mask lo hi⟩, .slice ap pk.length cap, .int .u32 port]) Kc rfl Hd Ft q1 q2 (AA (AG (j:=1) rfl) AT);rw[sm (by omega)]at h1;exact GP Sb cN (by rw[jV];rfl) h1 (Sc ..)
 ·obtain⟨q1,q2⟩:=px 600 neg pos size mask lo hi port ap pk.length cap M;obtain⟨x1,h1⟩:=B8 (x:=Bv [.agg ⟨AQ neg 2 pos size mask lo hi⟩, .slice ap pk.length cap, .int .u32 port]) Kc rfl Hd Ft q1 q2 (AA (AG (j:=1) rfl) (AA (AG (j:=1) rfl) AT));rw[show IntKind.wrap .u64 port=port from IntWalk.u64_in _ (by omega)]at h1;exact GP Sb cN (by rw[jV];rfl) h1 (Sc ..)
 ·obtain⟨z,rfl⟩:=Int.eq_ofNat_of_zero_le (show 0<=size by omega);obtain⟨p,rfl⟩:=Int.eq_ofNat_of_zero_le hp0;rcases hk with rfl|rfl
  ·obtain⟨q1,q2⟩:=py 600 neg (p:Int) (z:Int) mask lo hi port ap pk.length cap M;obtain⟨x1,h1⟩:=B8 (x:=Bv [.agg ⟨AQ neg 3 (p:Int) (z:Int) mask lo hi⟩, .slice ap pk.length cap, .int .u32 port]) Kc rfl Hd Ft q1 q2 (AA (AG (j:=1) rfl) (AA (AG (j:=1) rfl) (AA (AG (j:=2) rfl) (AA (AG (j:=1) rfl) AT))));rw[cO rfl hb hn hpa (a:=p) (by omega) (by omega) (by omega) hmask h1];by_cases hle:p+z<=pk.length
   ·simp[Dl,hle]
   ·simp[Dl,hle]
  ·by_cases h14:pk.length<=14
   ·obtain⟨q1,q2⟩:=jT 600 neg (p:Int) (z:Int) mask lo hi port ap pk.length cap M;obtain⟨x1,h1⟩:=B8 (x:=Bv [.agg ⟨AQ neg 4 (p:Int) (z:Int) mask lo hi⟩, .slice ap pk.length cap, .int .u32 port]) Kc rfl Hd Ft q1 q2 (AA (AG (j:=1) rfl) (AA (AG (j:=1) rfl) (AA (AG (j:=2) rfl) (AA (AG (j:=1) rfl) (AA (by simp[B6,Ba,Bc];omega) AT)))));have h2:=Jh 10 Wf (by simp) h1;rw[GP Sb cN (by rw[jV];rfl) h2 (Sc ..)];have:¬15<=pk.length:=by omega
    simp[Dl,this];rfl
   ·obtain⟨b,hbv⟩:∃b,pk[14]?=some b:=⟨_,List.getElem?_eq_getElem (by omega)⟩;have hbr:=hb b (List.mem_of_getElem? hbv);obtain⟨pb,sp,own,rfl,hpb,gpb⟩:=hpa (by rintro rfl;simp at h14);have hx:Ext M (mA M (AQ neg 4 (p:Int) (z:Int) mask lo hi)):=Ext.push _ _;obtain⟨q1,q2⟩:=qC 600 neg (p:Int) (z:Int) mask lo hi port b pk.length cap M pb sp;obtain⟨x1,h1⟩:=B8 (x:=Bv [.agg ⟨AQ neg 4 (p:Int) (z:Int) mask lo hi⟩, .slice (some ⟨pb,0,sp⟩) pk.length cap, .int .u32 port]) Kc rfl Hd Ft q1 q2 (AA (AG (j:=1) rfl) (AA (AG (j:=1) rfl) (AA (AG (j:=2) rfl) (AA (AG (j:=1) rfl) (AA (by simp[B6,Ba,Bc];omega) (AA (by omega) (AA (Wg ((hx.get pb hpb).trans gpb) hbv) AT)))))));rw[jW hbr (by omega)]at h1;rw[cO rfl hb hn hpa (a:=14+4*(b % 16).toNat+p) (by omega) (by omega) (by omega) hmask h1];have hget:pk.getD 14 0=b:=by rw[List.getD_eq_getElem?_getD,hbv];rfl
    have h15:15<=pk.length:=by omega
    by_cases hle:14+4*(b % 16).toNat+p+z<=pk.length
    ·simp only[Dl,hget];rw[if_pos hle];simp[h15,hle]
    ·simp only[Dl,hget];rw[if_neg hle];simp[h15,hle]
noncomputable def rC(kind pos size mask lo hi:Int):H.Hint where
 ix _:=false
 ld _ t off:=cond (Nat.beq t 3) (cond (Nat.beq off 1) (some (.int .i64 kind)) (cond (Nat.beq off 2) (some (.int .i64 pos)) (some (.int .i64 size)))) (cond (Nat.beq t 38) (cond (Nat.beq off 4) (some (.int .u64 mask)) (cond (Nat.beq off 5) (some (.int .u64 lo)) (some (.int .u64 hi)))) none)
 cmp op t:=cond (Nat.beq t 3) (BinOp.rec (motive:=λ_=>Option Bool) none none none none none none none none none none none none none none (some true) none (some true) op) none
 ap _:=none
 call _:=none
 spec _ _ _ _:=False
 blk:=0
 cmpO op t a:=cond (Nat.beq t 38) (BinOp.rec (motive:=λ_=>Option Bool) none none none none none none none none none none none none none (some true) (some true) (match a with| .tmp 6=>some false|_=>some true) none op) none
noncomputable def OG(kind pos size mask lo hi:Int)(neg:Bool)(M:Mem):Option (H.TT (Value×Mem)):=
 H.callT (rC kind pos size mask lo hi) Tryz.prog kp 1 20 31 [.agg ⟨AQ neg kind pos size mask lo hi⟩] M λv m=>some ((v,m),[],[])
noncomputable def fA(j:Nat)(M:Mem)(v:Value):Prop:=H.ldOk (M.get j) 0 false 1 v
noncomputable def b3(j:Nat)(v:Int)(M:Mem)(c:List Value):Prop:=H.ldOk ((mA M c).get M.size) (Nat.add 0 j) false 1 (.int .i64 v)
noncomputable def ES(j:Nat)(v:Int)(M:Mem)(c:List Value):Prop:=H.ldOk ((mA M c).get M.size) (Nat.add 0 j) false 1 (.int .u64 v)
noncomputable def G0(a b:Int)(r:Bool):Prop:=B6 Tryz.prog kp .gtr 38 (.int .u64 a) (.int .u64 b)=some (.bool r)
noncomputable def jX(a b:Int)(r:Bool):Prop:=B6 Tryz.prog kp .lss 38 (.int .u64 a) (.int .u64 b)=some (.bool r)
noncomputable def OZ(a b:Int)(r:Bool):Prop:=B6 Tryz.prog kp .geq 3 (.int .i64 a) (.int .i64 b)=some (.bool r)
noncomputable def dm(a b:Int)(r:Bool):Prop:=B6 Tryz.prog kp .leq 3 (.int .i64 a) (.int .i64 b)=some (.bool r)
theorem tz(lo hi:Int)(neg:Bool)(M:Mem):Rn (OG 1 0 0 0 lo hi neg M) ((.bool true,mA M (AQ neg 1 0 0 0 lo hi)),[ES 5 lo M (AQ neg 1 0 0 0 lo hi),ES 6 hi M (AQ neg 1 0 0 0 lo hi),G0 lo hi false,b3 1 1 M (AQ neg 1 0 0 0 lo hi),b3 2 0 M (AQ neg 1 0 0 0 lo hi),b3 3 0 M (AQ neg 1 0 0 0 lo hi),ES 4 0 M (AQ neg 1 0 0 0 lo hi),ES 6 hi M (AQ neg 1 0 0 0 lo hi),jX hi 4294967296 true]):=⟨by kernel_rfl,by kernel_rfl⟩
theorem uA(lo hi:Int)(neg:Bool)(M:Mem):Rn (OG 2 0 0 0 lo hi neg M) ((.bool true,mA M (AQ neg 2 0 0 0 lo hi)),[ES 5 lo M (AQ neg 2 0 0 0 lo hi),ES 6 hi M (AQ neg 2 0 0 0 lo hi),G0 lo hi false,b3 1 2 M (AQ neg 2 0 0 0 lo hi),b3 1 2 M (AQ neg 2 0 0 0 lo hi),b3 2 0 M (AQ neg 2 0 0 0 lo hi),b3 3 0 M (AQ neg 2 0 0 0 lo hi),ES 4 0 M (AQ neg 2 0 0 0 lo hi),ES 6 hi M (AQ neg 2 0 0 0 lo hi),jX hi 4294967296 true]):=⟨by kernel_rfl,by kernel_rfl⟩
theorem jY(pos mask lo hi:Int)(neg:Bool)(M:Mem):Rn (OG 3 pos 1 mask lo hi neg M) ((.bool true,mA M (AQ neg 3 pos 1 mask lo hi)),[ES 5 lo M (AQ neg 3 pos 1 mask lo hi),ES 6 hi M (AQ neg 3 pos 1 mask lo hi),G0 lo hi false,b3 1 3 M (AQ neg 3 pos 1 mask lo hi),b3 1 3 M (AQ neg 3 pos 1 mask lo hi),b3 1 3 M (AQ neg 3 pos 1 mask lo hi),b3 3 1 M (AQ neg 3 pos 1 mask lo hi),b3 2 pos M (AQ neg 3 pos 1 mask lo hi),OZ pos 0 true,b3 2 pos M (AQ neg 3 pos 1 mask lo hi),dm pos 255 true,ES 4 mask M (AQ neg 3 pos 1 mask lo hi),G0 mask 0 true,ES 4 mask M (AQ neg 3 pos 1 mask lo hi),b3 3 1 M (AQ neg 3 pos 1 mask lo hi),GZ mask 255 true,ES 6 hi M (AQ neg 3 pos 1 mask lo hi),b3 3 1 M (AQ neg 3 pos 1 mask lo hi),GZ hi 255 true,ES 4 mask M (AQ neg 3 pos 1 mask lo hi),ES 6 hi M (AQ neg 3 pos 1 mask lo hi)]):=⟨by kernel_rfl,by kernel_rfl⟩
theorem jZ(pos mask lo hi:Int)(neg:Bool)(M:Mem):Rn (OG 3 pos 2 mask lo hi neg M) ((.bool true,mA M (AQ neg 3 pos 2 mask lo hi)),[ES 5 lo M (AQ neg 3 pos 2 mask lo hi),ES 6 hi M (AQ neg 3 pos 2 mask lo hi),G0 lo hi false,b3 1 3 M (AQ neg 3 pos 2 mask lo hi),b3 1 3 M (AQ neg 3 pos 2 mask lo hi),b3 1 3 M (AQ neg 3 pos 2 mask lo hi),b3 3 2 M (AQ neg 3 pos 2 mask lo hi),b3 3 2 M (AQ neg 3 pos 2 mask lo hi),b3 2 pos M (AQ neg 3 pos 2 mask lo hi),OZ pos 0 true,b3 2 pos M (AQ neg 3 pos 2 mask lo hi),dm pos 255 true,ES 4 mask M (AQ neg 3 pos 2 mask lo hi),G0 mask 0 true,ES 4 mask M (AQ neg 3 pos 2 mask lo hi),b3 3 2 M (AQ neg 3 pos 2 mask lo hi),GZ mask 65535 true,ES 6 hi M (AQ neg 3 pos 2 mask lo hi),b3 3 2 M (AQ neg 3 pos 2 mask lo hi),GZ hi 65535 true,ES 4 mask M (AQ neg 3 pos 2 mask lo hi),ES 6 hi M (AQ neg 3 pos 2 mask lo hi)]):=⟨by kernel_rfl,by kernel_rfl⟩
theorem j0(pos mask lo hi:Int)(neg:Bool)(M:Mem):Rn (OG 3 pos 4 mask lo hi neg M) ((.bool true,mA M (AQ neg 3 pos 4 mask lo hi)),[ES 5 lo M (AQ neg 3 pos 4 mask lo hi),ES 6 hi M (AQ neg 3 pos 4 mask lo hi),G0 lo hi false,b3 1 3 M (AQ neg 3 pos 4 mask lo hi),b3 1 3 M (AQ neg 3 pos 4 mask lo hi),b3 1 3 M (AQ neg 3 pos 4 mask lo hi),b3 3 4 M (AQ neg 3 pos 4 mask lo hi),b3 3 4 M (AQ neg 3 pos 4 mask lo hi),b3 3 4 M (AQ neg 3 pos 4 mask lo hi),b3 2 pos M (AQ neg 3 pos 4 mask lo hi),OZ pos 0 true,b3 2 pos M (AQ neg 3 pos 4 mask lo hi),dm pos 255 true,ES 4 mask M (AQ neg 3 pos 4 mask lo hi),G0 mask 0 true,ES 4 mask M (AQ neg 3 pos 4 mask lo hi),b3 3 4 M (AQ neg 3 pos 4 mask lo hi),GZ mask 4294967295 true,ES 6 hi M (AQ neg 3 pos 4 mask lo hi),b3 3 4 M (AQ neg 3 pos 4 mask lo hi),GZ hi 4294967295 true,ES 4 mask M (AQ neg 3 pos 4 mask lo hi),ES 6 hi M (AQ neg 3 pos 4 mask lo hi)]):=⟨by kernel_rfl,by kernel_rfl⟩
theorem j3(pos mask lo hi:Int)(neg:Bool)(M:Mem):Rn (OG 3 pos 8 mask lo hi neg M) ((.bool true,mA M (AQ neg 3 pos 8 mask lo hi)),[ES 5 lo M (AQ neg 3 pos 8 mask lo hi),ES 6 hi M (AQ neg 3 pos 8 mask lo hi),G0 lo hi false,b3 1 3 M (AQ neg 3 pos 8 mask lo hi),b3 1 3 M (AQ neg 3 pos 8 mask lo hi),b3 1 3 M (AQ neg 3 pos 8 mask lo hi),b3 3 8 M (AQ neg 3 pos 8 mask lo hi),b3 3 8 M (AQ neg 3 pos 8 mask lo hi),b3 3 8 M (AQ neg 3 pos 8 mask lo hi),b3 3 8 M (AQ neg 3 pos 8 mask lo hi),b3 2 pos M (AQ neg 3 pos 8 mask lo hi),OZ pos 0 true,b3 2 pos M (AQ neg 3 pos 8 mask lo hi),dm pos 255 true,ES 4 mask M (AQ neg 3 pos 8 mask lo hi),G0 mask 0 true,ES 4 mask M (AQ neg 3 pos 8 mask lo hi),b3 3 8 M (AQ neg 3 pos 8 mask lo hi),GZ mask 18446744073709551615 true,ES 6 hi M (AQ neg 3 pos 8 mask lo hi),b3 3 8 M (AQ neg 3 pos 8 mask lo hi),GZ hi 18446744073709551615 true,ES 4 mask M (AQ neg 3 pos 8 mask lo hi),ES 6 hi M (AQ neg 3 pos 8 mask lo hi)]):=⟨by kernel_rfl,by kernel_rfl⟩
theorem j4(pos mask lo hi:Int)(neg:Bool)(M:Mem):Rn (OG 4 pos 1 mask lo hi neg M) ((.bool true,mA M (AQ neg 4 pos 1 mask lo hi)),[ES 5 lo M (AQ neg 4 pos 1 mask lo hi),ES 6 hi M (AQ neg 4 pos 1 mask lo hi),G0 lo hi false,b3 1 4 M (AQ neg 4 pos 1 mask lo hi),b3 1 4 M (AQ neg 4 pos 1 mask lo hi),b3 1 4 M (AQ neg 4 pos 1 mask lo hi),b3 1 4 M (AQ neg 4 pos 1 mask lo hi),b3 3 1 M (AQ neg 4 pos 1 mask lo hi),b3 2 pos M (AQ neg 4 pos 1 mask lo hi),OZ pos 0 true,b3 2 pos M (AQ neg 4 pos 1 mask lo hi),dm pos 255 true,ES 4 mask M (AQ neg 4 pos 1 mask lo hi),G0 mask 0 true,ES 4 mask M (AQ neg 4 pos 1 mask lo hi),b3 3 1 M (AQ neg 4 pos 1 mask lo hi),GZ mask 255 true,ES 6 hi M (AQ neg 4 pos 1 mask lo hi),b3 3 1 M (AQ neg 4 pos 1 mask lo hi),GZ hi 255 true,ES 4 mask M (AQ neg 4 pos 1 mask lo hi),ES 6 hi M (AQ neg 4 pos 1 mask lo hi)]):=⟨by kernel_rfl,by kernel_rfl⟩
theorem j5(pos mask lo hi:Int)(neg:Bool)(M:Mem):Rn (OG 4 pos 2 mask lo hi neg M) ((.bool true,mA M (AQ neg 4 pos 2 mask lo hi)),[ES 5 lo M (AQ neg 4 pos 2 mask lo hi),ES 6 hi M (AQ neg 4 pos 2 mask lo hi),G0 lo hi false,b3 1 4 M (AQ neg 4 pos 2 mask lo hi),b3 1 4 M (AQ neg 4 pos 2 mask lo hi),b3 1 4 M (AQ neg 4 pos 2 mask lo hi),b3 1 4 M (AQ neg 4 pos 2 mask lo hi),b3 3 2 M (AQ neg 4 pos 2 mask lo hi),b3 3 2 M (AQ neg 4 pos 2 mask lo hi),b3 2 pos M (AQ neg 4 pos 2 mask lo hi),OZ pos 0 true,b3 2 pos M (AQ neg 4 pos 2 mask lo hi),dm pos 255 true,ES 4 mask M (AQ neg 4 pos 2 mask lo hi),G0 mask 0 true,ES 4 mask M (AQ neg 4 pos 2 mask lo hi),b3 3 2 M (AQ neg 4 pos 2 mask lo hi),GZ mask 65535 true,ES 6 hi M (AQ neg 4 pos 2 mask lo hi),b3 3 2 M (AQ neg 4 pos 2 mask lo hi),GZ hi 65535 true,ES 4 mask M (AQ neg 4 pos 2 mask lo hi),ES 6 hi M (AQ neg 4 pos 2 mask lo hi)]):=⟨by kernel_rfl,by kernel_rfl⟩
theorem j6(pos mask lo hi:Int)(neg:Bool)(M:Mem):Rn (OG 4 pos 4 mask lo hi neg M) ((.bool true,mA M (AQ neg 4 pos 4 mask lo hi)),[ES 5 lo M (AQ neg 4 pos 4 mask lo hi),ES 6 hi M (AQ neg 4 pos 4 mask lo hi),G0 lo hi false,b3 1 4 M (AQ neg 4 pos 4 mask lo hi),b3 1 4 M (AQ neg 4 pos 4 mask lo hi),b3 1 4 M (AQ neg 4 pos 4 mask lo hi),b3 1 4 M (AQ neg 4 pos 4 mask lo hi),b3 3 4 M (AQ neg 4 pos 4 mask lo hi),b3 3 4 M (AQ neg 4 pos 4 mask lo hi),b3 3 4 M (AQ neg 4 pos 4 mask lo hi),b3 2 pos M (AQ neg 4 pos 4 mask lo hi),OZ pos 0 true,b3 2 pos M (AQ neg 4 pos 4 mask lo hi),dm pos 255 true,ES 4 mask M (AQ neg 4 pos 4 mask lo hi),G0 mask 0 true,ES 4 mask M (AQ neg 4 pos 4 mask lo hi),b3 3 4 M (AQ neg 4 pos 4 mask lo hi),GZ mask 4294967295 true,ES 6 hi M (AQ neg 4 pos 4 mask lo hi),b3 3 4 M (AQ neg 4 pos 4 mask lo hi),GZ hi 4294967295 true,ES 4 mask M (AQ neg 4 pos 4 mask lo hi),ES 6 hi M (AQ neg 4 pos 4 mask lo hi)]):=⟨by kernel_rfl,by kernel_rfl⟩
theorem j7(pos mask lo hi:Int)(neg:Bool)(M:Mem):Rn (OG 4 pos 8 mask lo hi neg M) ((.bool true,mA M (AQ neg 4 pos 8 mask lo hi)),[ES 5 lo M (AQ neg 4 pos 8 mask lo hi),ES 6 hi M (AQ neg 4 pos 8 mask lo hi),G0 lo hi false,b3 1 4 M (AQ neg 4 pos 8 mask lo hi),b3 1 4 M (AQ neg 4 pos 8 mask lo hi),b3 1 4 M (AQ neg 4 pos 8 mask lo hi),b3 1 4 M (AQ neg 4 pos 8 mask lo hi),b3 3 8 M (AQ neg 4 pos 8 mask lo hi),b3 3 8 M (AQ neg 4 pos 8 mask lo hi),b3 3 8 M (AQ neg 4 pos 8 mask lo hi),b3 3 8 M (AQ neg 4 pos 8 mask lo hi),b3 2 pos M (AQ neg 4 pos 8 mask lo hi),OZ pos 0 true,b3 2 pos M (AQ neg 4 pos 8 mask lo hi),dm pos 255 true,ES 4 mask M (AQ neg 4 pos 8 mask lo hi),G0 mask 0 true,ES 4 mask M (AQ neg 4 pos 8 mask lo hi),b3 3 8 M (AQ neg 4 pos 8 mask lo hi),GZ mask 18446744073709551615 true,ES 6 hi M (AQ neg 4 pos 8 mask lo hi),b3 3 8 M (AQ neg 4 pos 8 mask lo hi),GZ hi 18446744073709551615 true,ES 4 mask M (AQ neg 4 pos 8 mask lo hi),ES 6 hi M (AQ neg 4 pos 8 mask lo hi)]):=⟨by kernel_rfl,by kernel_rfl⟩
theorem qF{kind pos size mask lo hi:Int}(f:FuncId)(v:Value)(args:List Value)(m:Mem)(hc:(rC kind pos size mask lo hi).call f=some v)(hs:(rC kind pos size mask lo hi).says f args m v):Hi f args m=some (v,(rC kind pos size mask lo hi).eff f m):=hs.elim
theorem j8{kind pos size mask lo hi:Int}(f:FuncId)(hc:(rC kind pos size mask lo hi).call f=none)(a:List Value)(m:Mem):Hi f a m=none:=rfl
theorem Gq{kind pos size mask lo hi:Int}{neg:Bool}{M M':Mem}{qs:List Prop}(h:Rn (OG kind pos size mask lo hi neg M) ((.bool true,M'),qs))(hq:∀q∈qs,q):Jb 31 [.agg ⟨AQ neg kind pos size mask lo hi⟩] M=some (.bool true,M'):=by
 obtain⟨v',m,a1,a2⟩:=H.callO_H (H:=rC kind pos size mask lo hi) (o:=Hi) (P:=Tryz.prog) (K:=kp) (G:=1) (k:=20) (f:=31) (args:= [.agg ⟨AQ neg kind pos size mask lo hi⟩]) (m:=M) (g:=λv m=>(v,m)) qF j8 h.1 h.2 hq
 have e1:v'=_:=congrArg (λx=>x.1) a2
 have e2:m=_:=congrArg (λx=>x.2) a2
 exact a1.trans (by rw[e1,e2])
theorem Gr{a b:Int}(h:¬b<a):G0 a b false:=by unfold G0;simp[B6,Ba,Bc];omega
theorem I2{a b:Int}(h:b<a):G0 a b true:=by unfold G0;simp[B6,Ba,Bc];omega
theorem cP{a b:Int}(h:a<b):jX a b true:=by unfold jX;simp[B6,Ba,Bc];omega
theorem I3{a b:Int}(h:b<=a):OZ a b true:=by unfold OZ;simp[B6,Ba,Bc];omega
theorem Lr{a b:Int}(h:a<=b):dm a b true:=by unfold dm;simp[B6,Ba,Bc];omega
theorem j9{t:A8}(hm:Dg t=true)(M:Mem):Jb 31 [.agg ⟨AX t⟩] M=some (.bool true,mA M (AX t)):=by
 obtain⟨neg,kind,pos,size,mask,lo,hi⟩:=t
 have etc:AX ⟨neg,kind,pos,size,mask,lo,hi⟩=AQ neg kind pos size mask lo hi:=rfl
 rw[etc]
 unfold Dg at hm
 simp only at hm
 split at hm
 ·cases hm
 rename_i hlh
 split at hm
 ·rename_i hk;have hm:=of_decide_eq_true hm;obtain⟨rfl,rfl,rfl,hh⟩:=hm;rcases hk with rfl|rfl
  ·exact Gq (tz lo hi neg M) (AA (AG (j:=5) rfl) (AA (AG (j:=6) rfl) (AA (Gr (by omega)) (AA (AG (j:=1) rfl) (AA (AG (j:=2) rfl) (AA (AG (j:=3) rfl) (AA (AG (j:=4) rfl) (AA (AG (j:=6) rfl) (AA (cP hh) (AT))))))))))
  ·exact Gq (uA lo hi neg M) (AA (AG (j:=5) rfl) (AA (AG (j:=6) rfl) (AA (Gr (by omega)) (AA (AG (j:=1) rfl) (AA (AG (j:=1) rfl) (AA (AG (j:=2) rfl) (AA (AG (j:=3) rfl) (AA (AG (j:=4) rfl) (AA (AG (j:=6) rfl) (AA (cP hh) (AT)))))))))))
 rename_i hk
 split at hm
 ·cases hm
 rename_i hk2
 split at hm
 ·cases hm
 rename_i hz
 have hm:=of_decide_eq_true hm
 obtain⟨h0,h1,h2,h3,h4⟩:=hm
 have hkk:kind=3\/kind=4:=by omega
 have hzz:size=1\/size=2\/size=4\/size=8:=by omega
 rcases hkk with rfl|rfl<;>rcases hzz with rfl|rfl|rfl|rfl
 ·exact Gq (jY pos mask lo hi neg M) (AA (AG (j:=5) rfl) (AA (AG (j:=6) rfl) (AA (Gr (by omega)) (AA (AG (j:=1) rfl) (AA (AG (j:=1) rfl) (AA (AG (j:=1) rfl) (AA (AG (j:=3) rfl) (AA (AG (j:=2) rfl) (AA (I3 h0) (AA (AG (j:=2) rfl) (AA (Lr h1) (AA (AG (j:=4) rfl) (AA (I2 (by omega)) (AA (AG (j:=4) rfl) (AA (AG (j:=3) rfl) (AA (Dx h3) (AA (AG (j:=6) rfl) (AA (AG (j:=3) rfl) (AA (Dx h4) (AA (AG (j:=4) rfl) (AA (AG (j:=6) rfl) (AT))))))))))))))))))))))
 ·exact Gq (jZ pos mask lo hi neg M) (AA (AG (j:=5) rfl) (AA (AG (j:=6) rfl) (AA (Gr (by omega)) (AA (AG (j:=1) rfl) (AA (AG (j:=1) rfl) (AA (AG (j:=1) rfl) (AA (AG (j:=3) rfl) (AA (AG (j:=3) rfl) (AA (AG (j:=2) rfl) (AA (I3 h0) (AA (AG (j:=2) rfl) (AA (Lr h1) (AA (AG (j:=4) rfl) (AA (I2 (by omega)) (AA (AG (j:=4) rfl) (AA (AG (j:=3) rfl) (AA (Dx h3) (AA (AG (j:=6) rfl) (AA (AG (j:=3) rfl) (AA (Dx h4) (AA (AG (j:=4) rfl) (AA (AG (j:=6) rfl) (AT)))))))))))))))))))))))
 ·exact Gq (j0 pos mask lo hi neg M) (AA (AG (j:=5) rfl) (AA (AG (j:=6) rfl) (AA (Gr (by omega)) (AA (AG (j:=1) rfl) (AA (AG (j:=1) rfl) (AA (AG (j:=1) rfl) (AA (AG (j:=3) rfl) (AA (AG (j:=3) rfl) (AA (AG (j:=3) rfl) (AA (AG (j:=2) rfl) (AA (I3 h0) (AA (AG (j:=2) rfl) (AA (Lr h1) (AA (AG (j:=4) rfl) (AA (I2 (by omega)) (AA (AG (j:=4) rfl) (AA (AG (j:=3) rfl) (AA (Dx h3) (AA (AG (j:=6) rfl) (AA (AG (j:=3) rfl) (AA (Dx h4) (AA (AG (j:=4) rfl) (AA (AG (j:=6) rfl) (AT))))))))))))))))))))))))
 ·exact Gq (j3 pos mask lo hi neg M) (AA (AG (j:=5) rfl) (AA (AG (j:=6) rfl) (AA (Gr (by omega)) (AA (AG (j:=1) rfl) (AA (AG (j:=1) rfl) (AA (AG (j:=1) rfl) (AA (AG (j:=3) rfl) (AA (AG (j:=3) rfl) (AA (AG (j:=3) rfl) (AA (AG (j:=3) rfl) (AA (AG (j:=2) rfl) (AA (I3 h0) (AA (AG (j:=2) rfl) (AA (Lr h1) (AA (AG (j:=4) rfl) (AA (I2 (by omega)) (AA (AG (j:=4) rfl) (AA (AG (j:=3) rfl) (AA (Dx h3) (AA (AG (j:=6) rfl) (AA (AG (j:=3) rfl) (AA (Dx h4) (AA (AG (j:=4) rfl) (AA (AG (j:=6) rfl) (AT)))))))))))))))))))))))))
 ·exact Gq (j4 pos mask lo hi neg M) (AA (AG (j:=5) rfl) (AA (AG (j:=6) rfl) (AA (Gr (by omega)) (AA (AG (j:=1) rfl) (AA (AG (j:=1) rfl) (AA (AG (j:=1) rfl) (AA (AG (j:=1) rfl) (AA (AG (j:=3) rfl) (AA (AG (j:=2) rfl) (AA (I3 h0) (AA (AG (j:=2) rfl) (AA (Lr h1) (AA (AG (j:=4) rfl) (AA (I2 (by omega)) (AA (AG (j:=4) rfl) (AA (AG (j:=3) rfl) (AA (Dx h3) (AA (AG (j:=6) rfl) (AA (AG (j:=3) rfl) (AA (Dx h4) (AA (AG (j:=4) rfl) (AA (AG (j:=6) rfl) (AT)))))))))))))))))))))))
 ·exact Gq (j5 pos mask lo hi neg M) (AA (AG (j:=5) rfl) (AA (AG (j:=6) rfl) (AA (Gr (by omega)) (AA (AG (j:=1) rfl) (AA (AG (j:=1) rfl) (AA (AG (j:=1) rfl) (AA (AG (j:=1) rfl) (AA (AG (j:=3) rfl) (AA (AG (j:=3) rfl) (AA (AG (j:=2) rfl) (AA (I3 h0) (AA (AG (j:=2) rfl) (AA (Lr h1) (AA (AG (j:=4) rfl) (AA (I2 (by omega)) (AA (AG (j:=4) rfl) (AA (AG (j:=3) rfl) (AA (Dx h3) (AA (AG (j:=6) rfl) (AA (AG (j:=3) rfl) (AA (Dx h4) (AA (AG (j:=4) rfl) (AA (AG (j:=6) rfl) (AT))))))))))))))))))))))))
 ·exact Gq (j6 pos mask lo hi neg M) (AA (AG (j:=5) rfl) (AA (AG (j:=6) rfl) (AA (Gr (by omega)) (AA (AG (j:=1) rfl) (AA (AG (j:=1) rfl) (AA (AG (j:=1) rfl) (AA (AG (j:=1) rfl) (AA (AG (j:=3) rfl) (AA (AG (j:=3) rfl) (AA (AG (j:=3) rfl) (AA (AG (j:=2) rfl) (AA (I3 h0) (AA (AG (j:=2) rfl) (AA (Lr h1) (AA (AG (j:=4) rfl) (AA (I2 (by omega)) (AA (AG (j:=4) rfl) (AA (AG (j:=3) rfl) (AA (Dx h3) (AA (AG (j:=6) rfl) (AA (AG (j:=3) rfl) (AA (Dx h4) (AA (AG (j:=4) rfl) (AA (AG (j:=6) rfl) (AT)))))))))))))))))))))))))
 ·exact Gq (j7 pos mask lo hi neg M) (AA (AG (j:=5) rfl) (AA (AG (j:=6) rfl) (AA (Gr (by omega)) (AA (AG (j:=1) rfl) (AA (AG (j:=1) rfl) (AA (AG (j:=1) rfl) (AA (AG (j:=1) rfl) (AA (AG (j:=3) rfl) (AA (AG (j:=3) rfl) (AA (AG (j:=3) rfl) (AA (AG (j:=3) rfl) (AA (AG (j:=2) rfl) (AA (I3 h0) (AA (AG (j:=2) rfl) (AA (Lr h1) (AA (AG (j:=4) rfl) (AA (I2 (by omega)) (AA (AG (j:=4) rfl) (AA (AG (j:=3) rfl) (AA (Dx h3) (AA (AG (j:=6) rfl) (AA (AG (j:=3) rfl) (AA (Dx h4) (AA (AG (j:=4) rfl) (AA (AG (j:=6) rfl) (AT))))))))))))))))))))))))))
noncomputable def Sq:C1:=λf a M=>if f=31 then Jb 31 a M else if f=32 then Cu Tryz.prog kp 1 Jb 600 32 a M else none
noncomputable def qE(ok b1 b2 neg:Bool)(N lo hi:Int)(tv:List Value):H.Hint where
 ix _:=false
 ld _ t off:=cond (Nat.beq t 57) (some (.agg ⟨tv⟩)) (cond (Nat.beq t 38) (cond (Nat.beq off 5) (some (.int .u64 lo)) (some (.int .u64 hi))) (cond (Nat.beq t 4) (some (.bool neg)) none))
 cmp op t:=cond (Nat.beq t 38) (BinOp.rec (motive:=λ_=>Option Bool) none none none none none none none none none none none none none none (some b2) none (some b1) op) none
 ap _:=none
 call f:=cond (Nat.beq f 31) (some (.bool true)) (cond (Nat.beq f 32) (some (.tuple ⟨[.int .u64 N, .bool ok]⟩)) none)
 spec _ _ _ _:=False
 blk:=0
 eff _ m:=mA m tv
 specM f:=some λargs m v=>Sq f args m=some (v,mA m tv)
noncomputable def Sd(ok b1 b2 neg:Bool)(N lo hi port:Int)(tv:List Value)(pv:Value)(M:Mem):Option (H.TT (Value×Mem)):=
 H.callT (qE ok b1 b2 neg N lo hi tv) Tryz.prog kp 1 20 16 [.agg ⟨tv⟩,pv, .int .u32 port] M λv m=>some ((v,m),[],[])
noncomputable def ME(M m:Mem)(tv:List Value):Prop:=H.ldOk (m.get M.size) 0 true 7 (.agg ⟨tv⟩)
noncomputable def dp(M:Mem)(tv:List Value):Mem:=mA (mA M tv) tv
noncomputable def YO(M:Mem)(tv:List Value):Mem:=mA (mA (mA M tv) tv) tv
noncomputable def f16(M:Mem)(tv:List Value)(j:Nat)(v:Value):Prop:=H.ldOk ((YO M tv).get M.size) (Nat.add 0 j) false 1 v
noncomputable def rD(M:Mem)(tv:List Value):Prop:=Sq 31 [.agg ⟨tv⟩] (mA M tv)=some (.bool true,dp M tv)
noncomputable def lY(M:Mem)(tv:List Value)(pv:Value)(port N:Int)(ok:Bool):Prop:=Sq 32 [.agg ⟨tv⟩,pv, .int .u32 port] (dp M tv)=some (.tuple ⟨[.int .u64 N, .bool ok]⟩,YO M tv)
noncomputable def U2(a b:Int)(r:Bool):Prop:=B6 Tryz.prog kp .geq 38 (.int .u64 a) (.int .u64 b)=some (.bool r)
theorem jc(neg:Bool)(N lo hi port:Int)(tv:List Value)(pv:Value)(M:Mem):Rn (Sd true true true neg N lo hi port tv pv M) ((.bool (!neg),YO M tv),[ME M (mA M tv) tv,rD M tv,ME M (dp M tv) tv,lY M tv pv port N true,f16 M tv 5 (.int .u64 lo),U2 N lo true,f16 M tv 6 (.int .u64 hi),GZ N hi true,f16 M tv 0 (.bool neg)]):=by
 cases neg<;>exact⟨by kernel_rfl,by kernel_rfl⟩
theorem jd(neg:Bool)(N lo hi port:Int)(tv:List Value)(pv:Value)(M:Mem):Rn (Sd true true false neg N lo hi port tv pv M) ((.bool neg,YO M tv),[ME M (mA M tv) tv,rD M tv,ME M (dp M tv) tv,lY M tv pv port N true,f16 M tv 5 (.int .u64 lo),U2 N lo true,f16 M tv 6 (.int .u64 hi),GZ N hi false,f16 M tv 0 (.bool neg)]):=by
 cases neg<;>exact⟨by kernel_rfl,by kernel_rfl⟩
theorem qG(neg:Bool)(N lo hi port:Int)(tv:List Value)(pv:Value)(M:Mem):Rn (Sd true false false neg N lo hi port tv pv M) ((.bool neg,YO M tv),[ME M (mA M tv) tv,rD M tv,ME M (dp M tv) tv,lY M tv pv port N true,f16 M tv 5 (.int .u64 lo),U2 N lo false,f16 M tv 0 (.bool neg)]):=by
 cases neg<;>exact⟨by kernel_rfl,by kernel_rfl⟩
theorem qH(neg:Bool)(N lo hi port:Int)(tv:List Value)(pv:Value)(M:Mem):Rn (Sd false false false neg N lo hi port tv pv M) ((.bool neg,YO M tv),[ME M (mA M tv) tv,rD M tv,ME M (dp M tv) tv,lY M tv pv port N false,f16 M tv 0 (.bool neg)]):=by
 cases neg<;>exact⟨by kernel_rfl,by kernel_rfl⟩
theorem Qe(B0:Nat):CR Tryz.prog B0 1 Jb:=Co Bu hK Ed (SA B0) Iw 20
theorem OH:B5 Jb:=CK Iw 20
theorem Qf:B5 Sq:=λf a M v M' h=>by
 unfold Sq at h
 split at h
 ·exact OH _ _ _ _ _ h
 ·split at h
  ·exact Fz OH 600 32 a M v M' h
  ·cases h
theorem qI(B0:Nat):CR Tryz.prog B0 1 Sq:=by
 have ih:=HJ Bu hK Ed (Qe B0) OH 600
 refine⟨λf a M v M' h=>(Qf f a M v M' h).size,λf a M v M' h=>?_,λf a M v M' h=>?_⟩
 all_goals
  unfold Sq at h;split at h
  ·rename_i e;subst e
   first|exact(Qe B0).ok _ _ _ _ _ h|exact(Qe B0).body _ _ _ _ _ h
  ·split at h
   ·rename_i e;subst e
    first|exact ih.ok _ _ _ _ _ h|exact ih.body _ _ _ _ _ h
   ·cases h
theorem qJ(a:List Value)(M:Mem):Sq 31 a M=Jb 31 a M:=if_pos rfl
theorem cQ(a:List Value)(M:Mem):Sq 32 a M=Cu Tryz.prog kp 1 Jb 600 32 a M:=(if_neg (by decide)).trans (if_pos rfl)
theorem je{f:FuncId}(h:f≠31)(h':f≠32)(a:List Value)(M:Mem):Sq f a M=none:=(if_neg h).trans (if_neg h')
theorem qK{ok b1 b2 neg:Bool}{N lo hi:Int}{tv:List Value}(f:FuncId)(v:Value)(args:List Value)(m:Mem)(hc:(qE ok b1 b2 neg N lo hi tv).call f=some v)(hs:(qE ok b1 b2 neg N lo hi tv).says f args m v):Sq f args m=some (v,(qE ok b1 b2 neg N lo hi tv).eff f m):=hs
theorem jf{ok b1 b2 neg:Bool}{N lo hi:Int}{tv:List Value}(f:FuncId)(hc:(qE ok b1 b2 neg N lo hi tv).call f=none)(a:List Value)(m:Mem):Sq f a m=none:=
 je (by rintro rfl;cases hc) (by rintro rfl;cases hc) a m
noncomputable abbrev U3:EV:=CG Tryz.prog kp 1 Sq 20
theorem Kd{ok b1 b2 neg b:Bool}{N lo hi port:Int}{tv:List Value}{pv:Value}{M M':Mem}{qs:List Prop}(h:Rn (Sd ok b1 b2 neg N lo hi port tv pv M) ((.bool b,M'),qs))(hq:∀q∈qs,q):U3 16 [.agg ⟨tv⟩,pv, .int .u32 port] M=some (.bool b,M'):=by
 obtain⟨v',m,a1,a2⟩:=H.callO_H (H:=qE ok b1 b2 neg N lo hi tv) (o:=Sq) (P:=Tryz.prog) (K:=kp) (G:=1) (k:=20) (f:=16) (args:= [.agg ⟨tv⟩,pv, .int .u32 port]) (m:=M) (g:=λv m=>(v,m)) qK jf h.1 h.2 hq
 have e1:v'=_:=congrArg (λx=>x.1) a2
 have e2:m=_:=congrArg (λx=>x.2) a2
 exact a1.trans (by rw[e1,e2])
theorem JU.ext{M M':Mem}{pv:Value}{pk:List Int}(h:JU M pv pk)(x:Ext M M'):JU M' pv pk:=by
 rcases h with g|⟨k,sp,cap,own,h1,h2,h3,h4,h5,h6⟩
 ·exact .inl g
 ·exact .inr ⟨k,sp,cap,own,h1,h2,h3,Nat.lt_of_lt_of_le h4 x.size,h5,(x.get k h4).trans h6⟩
theorem qL{M:Mem}{c:List Value}:(mA M c).get M.size= .cells true c:=Mem.get_push_same ..
theorem qM{M:Mem}{c:List Value}:(dp M c).get M.size= .cells true c:=by
 unfold dp mA
 rw[Mem.get_push_ne _ (by show M.size≠M.size+1;omega),Mem.get_push_same]
theorem qN{M:Mem}{c:List Value}:(YO M c).get M.size= .cells true c:=by
 unfold YO mA
 rw[Mem.get_push_ne _ (by show M.size≠M.size+1+1;omega),Mem.get_push_ne _ (by show M.size≠M.size+1;omega),Mem.get_push_same]
theorem U4{M:Mem}{c:List Value}:Ext M (YO M c):=((Ext.push M _).trans (Ext.push _ _)).trans (Ext.push _ _)
theorem cR{a b:Int}(h:b<=a):U2 a b true:=by unfold U2;simp[B6,Ba,Bc];omega
theorem qO{a b:Int}(h:¬b<=a):U2 a b false:=by unfold U2;simp[B6,Ba,Bc];omega
theorem He{M:Mem}{tv:List Value}{j:Nat}{v:Value}(h:tv[j]?=some v):f16 M tv j v:=by
 unfold f16
 rw[qN]
 show tv[Nat.add 0 j]?=_
 rw[show Nat.add 0 j=j from Nat.zero_add j]
 exact h
theorem Ls{M:Mem}{t:A8}{pk:List Int}{pv:Value}{port:Int}(hm:Dg t=true)(hr:Dh t)(hb:∀b∈pk,0<=b/\b<256)(hn:pk.length<=65535)(hpk:JU M pv pk)(hp:0<=port/\port<4294967296):
  U3 16 [.agg ⟨AX t⟩,pv, .int .u32 port] M=some (.bool (CP t pk port),YO M (AX t)):=by
 have p1:ME M (mA M (AX t)) (AX t):=by unfold ME;rw[qL];exact Q9 rfl
 have p2:rD M (AX t):=by unfold rD;rw[qJ];exact j9 hm _
 have p3:ME M (dp M (AX t)) (AX t):=by unfold ME;rw[qM];exact Q9 rfl
 have p4:=YN (M:=dp M (AX t)) hm hr hb hn (hpk.ext ((Ext.push M _).trans (Ext.push _ _))) hp
 have eH:CP t pk port=((match Dl t pk port with|some n=>decide (t.lo<=n/\n<=t.hi)|none=>false) !=t.neg):=rfl
 rw[eH]
 obtain⟨neg,kind,pos,size,mask,lo,hi⟩:=t
 have etc:AX ⟨neg,kind,pos,size,mask,lo,hi⟩=AQ neg kind pos size mask lo hi:=rfl
 rw[etc]at p1 p2 p3 p4 ⊢
 cases hask:Dl ⟨neg,kind,pos,size,mask,lo,hi⟩ pk port with
 |none=>
  rw[hask]at p4;have p4:lY M (AQ neg kind pos size mask lo hi) pv port 0 false:=by unfold lY;rw[cQ];exact p4
  have:=Kd (qH neg 0 lo hi port _ pv M) (AA p1 (AA p2 (AA p3 (AA p4 (AA (He rfl) AT)))));rw[this];cases neg<;>rfl
 |some n=>
  rw[hask]at p4;have p4:lY M (AQ neg kind pos size mask lo hi) pv port n true:=by unfold lY;rw[cQ];exact p4
  refine YG (n:=n) (lo:=lo) (hi:=hi) (neg:=neg) (R:=λb=>U3 16 [.agg ⟨AQ neg kind pos size mask lo hi⟩,pv, .int .u32 port] M=some (.bool b,YO M (AQ neg kind pos size mask lo hi))) ?_ ?_ ?_
  ·intro h1 h2;exact Kd (jc neg n lo hi port _ pv M) (AA p1 (AA p2 (AA p3 (AA p4 (AA (He rfl) (AA (cR h1) (AA (He rfl) (AA (Dx h2) (AA (He rfl) AT)))))))))
  ·intro h1 h2;exact Kd (jd neg n lo hi port _ pv M) (AA p1 (AA p2 (AA p3 (AA p4 (AA (He rfl) (AA (cR h1) (AA (He rfl) (AA (pB h2) (AA (He rfl) AT)))))))))
  ·intro h1;exact Kd (qG neg n lo hi port _ pv M) (AA p1 (AA p2 (AA p3 (AA p4 (AA (He rfl) (AA (qO h1) (AA (He rfl) AT)))))))
theorem Wi(B0:Nat):CR Tryz.prog B0 1 U3:=Co Bu hK Ed (qI B0) Qf 20
theorem Se:B5 U3:=CK Qf 20
noncomputable def MW:C1:=G9 gl 16 U3 jA
theorem pV(B0:Nat):CR Tryz.prog B0 1 MW:=GN CO Wi Se B0
theorem WT:B5 MW:=E9 CO Wi Se
theorem qP{M:Mem}{t:A8}{pk:List Int}{pv:Value}{port:Int}(hM:M.top)(h0:M.get 0= .cells false gl)(h1:1<=M.size)(hm:Dg t=true)(hr:Dh t)(hb:∀b∈pk,0<=b/\b<256)(hn:pk.length<=65535)(hpk:JU M pv pk)(hp:0<=port/\port<4294967296):
  MW 16 [.agg ⟨AX t⟩,pv, .int .u32 port] M=some (.bool (CP t pk port),M):=by
 rcases hpk with⟨rfl,rfl⟩|⟨k,sp,cap,own,rfl,hc,hsp,hk,hk0,gk⟩
 ·have a1:=Ls (M:=mS gl []) hm hr hb hn (.inl ⟨rfl,rfl⟩) hp;exact IP (op:=jA) (bs:= []) rfl (bg hM h0 h1) (.cons ((GA rfl).sim _ _) (.cons ((EB _ _).sim _ _) (.cons ((Cn _ _).sim _ _) .nil))) a1 rfl ((U4.get 0 (bd [])).trans (WO _)) (λi s hi=>by simp at hi)
 ·have hsz:(mS gl [.cells own (AN pk)]).size=2:=by unfold mS;rw[Cm,mG_size];rfl
  have hg1:(mS gl [.cells own (AN pk)]).get 1= .cells own (AN pk):=by
   have:=CM [.cells own (AN pk)] (mG gl) 1;unfold mS;rw[this,mG_size,if_neg (by decide)];rfl
  have a1:=Ls (M:=mS gl [.cells own (AN pk)]) (pv:=u5 pk.length cap sp) hm hr hb hn (.inr ⟨1,sp,cap,own,rfl,hc,hsp,by rw[hsz];decide,by decide,hg1⟩) hp;have a3:(YO (mS gl [.cells own (AN pk)]) (AX t)).get 1= .cells own (AN pk):=(U4.get 1 (by rw[hsz];decide)).trans hg1
  refine IP (op:=jA) (sa:= [.agg ⟨AX t⟩,u5 pk.length cap sp, .int .u32 port]) (bs:= [k]) rfl (so hM h0 h1 hk hk0 gk) ?_ (m:=YO (mS gl [.cells own (AN pk)]) (AX t)) (by
   show U3 16 _ (mS gl [M.get k])=_;rw[gk];exact a1) rfl ((U4.get 0 (bd _)).trans (WO _)) (λi s hi=>?_)
  ·have hb1:(λi=>Nat.blt i (1+ [k].length)) 1=true:=rfl;refine .cons ((GA rfl).sim _ _) (.cons ?_ (.cons ((Cn _ _).sim _ _) .nil));cases sp with
   |none=>exact QI (ρ:=DV [k] M) hb1
   |some e=>exact EC (ρ:=DV [k] M) hb1
  ·rcases i with _|i
   ·have hi:some (M.get k)=some s:=hi;cases hi;rw[gk];exact a3
   ·cases hi
noncomputable def jg:Code:=AM Tryz.f10
noncomputable def cS(c:Code)(i:Nat):Code:=match(items c)[i]? with|some (.block _ (.loop c))=>c|_=> .skip
noncomputable def uB(c:Code)(i:Nat):Code:=match(items c)[i]? with|some (.block _ c)=>c|_=> .skip
noncomputable def U5(c:Code)(i:Nat):Code:=match(items c)[i]? with|some c=>c|_=> .skip
noncomputable def OI:Code:=cS jg 2
noncomputable def O0:Code:=uB OI 2
noncomputable def cT:Code:=cS O0 2
theorem cU:(items jg).drop 2= .block 0 (.loop OI)::(items jg).drop 3:=by kernel_rfl
theorem jh:(items OI).drop 2= [.block 1 O0,U5 OI 3]:=by kernel_rfl
theorem Wj:(items O0).drop 2= .block 2 (.loop cT)::(items O0).drop 3:=by kernel_rfl
noncomputable def Sr(lt hb:Bool)(sv:Value)(tv:List Value)(ve:Int)(o:C1):H.Hint where
 ix t:=cond (Nat.beq t 22) true (Nat.beq t 53)
 ld _ t _:=cond (Nat.beq t 53) (some sv) (cond (Nat.beq t 57) (some (.agg ⟨tv⟩)) (cond (Nat.beq t 24) (some (.int .u32 ve)) none))
 cmp op t:=cond (Nat.beq t 3) (BinOp.rec (motive:=λ_=>Option Bool) none none none none none none none none none none none none none (some lt) none none none op) none
 ap _:=none
 call f:=cond (Nat.beq f 16) (some (.bool hb)) none
 spec _ _ _ _:=False
 blk:=0
 specM f:=some λargs m v=>o f args m=some (v,m)
noncomputable def uC:List Nat:= [0,1,2,8,9,10]
noncomputable def uD:List Nat:= [0,1,2,8]
noncomputable def ji(rv pv:Value)(port i:Int)(all:Bool)(j:Int):List (Nat×Value):=uC.zip [rv,pv, .int .u32 port, .int .i64 i, .bool all, .int .i64 j]
noncomputable def U6(rv pv:Value)(port i:Int):List (Nat×Value):=uD.zip [rv,pv, .int .u32 port, .int .i64 i]
noncomputable def cV(i:Int)(n:Nat):Prop:=0<=i/\i< (n:Int)
noncomputable def lZ(M:Mem)(rb:Nat)(i:Int)(j:Nat)(v:Value):Prop:=H.ldOk (M.get rb) (Nat.add (Nat.add 0 (Nat.mul i.toNat 2)) j) false 1 v
noncomputable def ue(i:Int)(n:Nat)(b:Bool):Prop:=B6 Tryz.prog kp .lss 3 (.int .i64 i) (.int .i64 (Int.ofNat n))=some (.bool b)
section
variable(k:Nat)(x:Nat->Value)(o:C1)(pv:Value)(port i j:Int)(rb:Nat)(sp:Option Nat)(n cap:Nat)(ta:Option Addr)(tn tc:Nat)(a:Option Addr)(M:Mem)
theorem uE(hb:Bool)(tb:Nat)(tp:Option Nat)(neg:Bool)(kind pos size mask lo hi:Int):
  Rn (JJ (Sr true hb (.slice (some ⟨tb,0,tp⟩) tn tc) (AQ neg kind pos size mask lo hi) 0 o) Tryz.prog kp k cT 48 uC (AB 48 (up x (ji (.slice (some ⟨rb,0,sp⟩) n cap) pv port i true j))) M) ((.normal,[.slice (some ⟨rb,0,sp⟩) n cap,pv, .int .u32 port, .int .i64 i, .bool hb, .int .i64 (IntKind.wrap .i64 (Int.add j 1))],M),
    [cV i n,lZ M rb i 0 (.slice (some ⟨tb,0,tp⟩) tn tc),ue j tn true,cV i n,lZ M rb i 0 (.slice (some ⟨tb,0,tp⟩) tn tc),cV j tn,H.ldOk (M.get tb) (Nat.add 0 (Nat.mul j.toNat 7)) true 7 (.agg ⟨AQ neg kind pos size mask lo hi⟩),o 16 [.agg ⟨AQ neg kind pos size mask lo hi⟩,pv, .int .u32 port] M=some (.bool hb,M)]):=⟨by kernel_rfl,by kernel_rfl⟩
theorem uF:
  Rn (JJ (Sr true false (.slice ta tn tc) [] 0 o) Tryz.prog kp k cT 48 uC (AB 48 (up x (ji (.slice (some ⟨rb,0,sp⟩) n cap) pv port i false j))) M) ((.normal,[.slice (some ⟨rb,0,sp⟩) n cap,pv, .int .u32 port, .int .i64 i, .bool false, .int .i64 (IntKind.wrap .i64 (Int.add j 1))],M),
    [cV i n,lZ M rb i 0 (.slice ta tn tc),ue j tn true]):=⟨by kernel_rfl,by kernel_rfl⟩
theorem l4(all:Bool):
  Rn (JJ (Sr false false (.slice ta tn tc) [] 0 o) Tryz.prog kp k cT 48 uC (AB 48 (up x (ji (.slice (some ⟨rb,0,sp⟩) n cap) pv port i all j))) M) ((.exit 2,[.slice (some ⟨rb,0,sp⟩) n cap,pv, .int .u32 port, .int .i64 i, .bool all, .int .i64 j],M),
    [cV i n,lZ M rb i 0 (.slice ta tn tc),ue j tn false]):=⟨by kernel_rfl,by kernel_rfl⟩
theorem qQ(lt:Bool):
  Rn (JJ (Sr lt false undef [] 0 o) Tryz.prog kp k (DM ((items OI).take 2)) 48 uD (AB 48 (up x (U6 (.slice a n cap) pv port i))) M) ((cond lt .normal (.exit 0),[.slice a n cap,pv, .int .u32 port, .int .i64 i],M),[ue i n lt]):=by
 cases lt<;>exact⟨by kernel_rfl,by kernel_rfl⟩
theorem xV(rv:Value):
  Rn (JJ (Sr true false undef [] 0 o) Tryz.prog kp k (DM ((items O0).take 2)) 48 uC (AB 48 (up x (U6 rv pv port i))) M) ((.normal,[rv,pv, .int .u32 port, .int .i64 i, .bool true, .int .i64 0],M),[]):=⟨by kernel_rfl,by kernel_rfl⟩
theorem uG(ve:Int):
  Rn (JJ (Sr true false undef [] ve o) Tryz.prog kp k (DM ((items O0).drop 3)) 48 [6,7] (AB 48 (up x (ji (.slice (some ⟨rb,0,sp⟩) n cap) pv port i true j))) M) ((.ret,[.int .u32 ve, .int .i64 i],M),[cV i n,lZ M rb i 1 (.int .u32 ve)]):=⟨by kernel_rfl,by kernel_rfl⟩
theorem uH(rv:Value):
  Rn (JJ (Sr true false undef [] 0 o) Tryz.prog kp k (DM ((items O0).drop 3)) 48 uD (AB 48 (up x (ji rv pv port i false j))) M) ((.normal,[rv,pv, .int .u32 port, .int .i64 i],M),[]):=⟨by kernel_rfl,by kernel_rfl⟩
theorem xW(rv:Value):
  Rn (JJ (Sr true false undef [] 0 o) Tryz.prog kp k (U5 OI 3) 48 uD (AB 48 (up x (U6 rv pv port i))) M) ((.normal,[rv,pv, .int .u32 port, .int .i64 (IntKind.wrap .i64 (Int.add i 1))],M),[]):=⟨by kernel_rfl,by kernel_rfl⟩
theorem xX:
  Rn (JJ (Sr true false undef [] 0 o) Tryz.prog kp k (DM ((items jg).take 2)) 48 uD (AB 48 (Bv [.slice a n cap,pv, .int .u32 port])) M) ((.normal,[.slice a n cap,pv, .int .u32 port, .int .i64 0],M),[]):=⟨by kernel_rfl,by kernel_rfl⟩
theorem xY(rv:Value):
  Rn (JJ (Sr true false undef [] 0 o) Tryz.prog kp k (DM ((items jg).drop 3)) 48 [6,7] (AB 48 (up x (U6 rv pv port i))) M) ((.ret,[.int .u32 0, .int .i64 (-1)],M),[]):=⟨by kernel_rfl,by kernel_rfl⟩
end
theorem HR:Gn 48:=by
 intro x d v hd
 refine⟨up x [(d,v)],?_⟩
 iterate 48 (rcases d with _|d;· kernel_rfl)
 omega
theorem FP{lt hb:Bool}{sv:Value}{tv:List Value}{ve:Int}(f:FuncId)(v:Value)(args:List Value)(m:Mem)(hc:(Sr lt hb sv tv ve MW).call f=some v)(hs:(Sr lt hb sv tv ve MW).says f args m v):MW f args m=some (v,(Sr lt hb sv tv ve MW).eff f m):=hs
theorem ED{lt hb:Bool}{sv:Value}{tv:List Value}{ve:Int}(f:FuncId)(hc:(Sr lt hb sv tv ve MW).call f=none)(a:List Value)(m:Mem):MW f a m=none:=FJ (by rintro rfl;cases hc) a m
noncomputable abbrev UW:EV:=CG Tryz.prog kp 1 MW 20
noncomputable abbrev l5(k:Nat):AF->Mem->Option (Ex×AF×Mem):=AI Tryz.prog kp 1 UW (AV Tryz.prog kp 1 UW 48) 48 k cT
noncomputable abbrev Ke(k:Nat):AF->Mem->Option (Ex×AF×Mem):=AI Tryz.prog kp 1 UW (AV Tryz.prog kp 1 UW 48) 48 k OI
theorem Kf{M:Mem}{rb:Nat}{own:Bool}{rest:List Value}{vr:List (Value×BA)}{i:Nat}{v:Value}{r:BA}(hg:M.get rb= .cells own (vr.flatMap BX++rest))(hi:vr[i]?=some (v,r)){j:Nat}{u:Value}(hj:(BX (v,r))[j]?=some u):lZ M rb (i:Int) j u:=by
 have h1:=Cf Bo hi rest
 rw[Y.subL_eq]at h1
 unfold lZ
 rw[hg]
 show(vr.flatMap BX++rest)[Nat.add (Nat.add 0 (Nat.mul i 2)) j]?=some u
 have hj2:j<2:=by
  have:=(List.getElem?_eq_some_iff.1 hj).1;rw[Bo]at this;exact this
 rw[←hj,←h1,List.getElem?_take_of_lt hj2,List.getElem?_drop]
 rfl
section
variable{M:Mem}{pv v:Value}{pk:List Int}{port:Int}{rb cap:Nat}{sp:Option Nat}{vr:List (Value×BA)}{rest:List Value}{own:Bool}{r:BA}
theorem Qg(hS:jH M pv pk)(hb:∀b∈pk,0<=b/\b<256)(hn:pk.length<=65535)(hp:0<=port/\port<4294967296)(hg:M.get rb= .cells own (vr.flatMap BX++rest)){i:Nat}{tb tc:Nat}{tp:Option Nat}{ts:List A8}(hv:vr[i]?=some (.slice (some ⟨tb,0,tp⟩) ts.length tc,r))
  {tr:List Value} {ot:Bool} (ht:M.get tb= .cells ot (ts.flatMap AX++tr)) (hl:ts.length<=100) (hm:∀t∈ts,Dg t=true/\Dh t) (kk:Nat):
  ∀(d j:Nat),ts.length=j+d->∀(jj:Nat) (x:Nat->Value) (all:Bool),d+1<=jj->
  ∃x' j',BT (l5 kk) jj (AB 48 (up x (ji (.slice (some ⟨rb,0,sp⟩) vr.length cap) pv port (i:Int) all (j:Int)))) M=some (.exit 2,AB 48 (up x' (ji (.slice (some ⟨rb,0,sp⟩) vr.length cap) pv port (i:Int) (all && (ts.drop j).all (λt=>CP t pk port)) j')),M)
 |0,j,hj,jj,x,all,hjj=>by
  obtain⟨jj,rfl⟩:∃j',jj=j'+1:=⟨jj - 1,by omega⟩;obtain rfl:j=ts.length:=by omega
  have hlt:i<vr.length:=(List.getElem?_eq_some_iff.1 hv).1;obtain⟨q1,q2⟩:=l4 kk x MW pv port (i:Int) (ts.length:Int) rb sp vr.length cap (some ⟨tb,0,tp⟩) ts.length tc M all;obtain⟨x1,h1⟩:=B8 HR rfl FP ED q1 q2 (AA (show cV (i:Int) vr.length from⟨by omega,by omega⟩) (AA (Kf hg hv rfl) (AA (OB (Nat.lt_irrefl _)) AT)));rw[List.drop_length,List.all_nil,Bool.and_true];exact⟨x1,_,CY h1 (by simp)⟩
 |d+1,j,hj,jj,x,all,hjj=>by
  obtain⟨jj,rfl⟩:∃j',jj=j'+1:=⟨jj - 1,by omega⟩;have hlt:j<ts.length:=by omega
  have hli:i<vr.length:=(List.getElem?_eq_some_iff.1 hv).1;obtain⟨t,htj⟩:∃t,ts[j]?=some t:=⟨_,List.getElem?_eq_getElem hlt⟩;have hmt:=hm t (List.mem_of_getElem? htj);have pi:cV (i:Int) vr.length:=⟨by omega,by omega⟩;have pf:lZ M rb (i:Int) 0 (.slice (some ⟨tb,0,tp⟩) ts.length tc):=Kf hg hv rfl;have hd:ts.drop j=t::ts.drop (j+1):=S9 htj;rw[hd,List.all_cons];cases all with
  |false=>
   obtain⟨q1,q2⟩:=uF kk x MW pv port (i:Int) (j:Int) rb sp vr.length cap (some ⟨tb,0,tp⟩) ts.length tc M;obtain⟨x1,h1⟩:=B8 HR rfl FP ED q1 q2 (AA pi (AA pf (AA (OA hlt) AT)));rw[Ka (by omega)]at h1;obtain⟨x2,j2,h2⟩:=Qg hS hb hn hp hg hv ht hl hm kk d (j+1) (by omega) jj x1 false (by omega);rw[Bool.false_and]at h2 ⊢;exact⟨x2,j2,Ck h1 h2⟩
  |true=>
   obtain⟨q1,q2⟩:=uE kk x MW pv port (i:Int) (j:Int) rb sp vr.length cap ts.length tc M (CP t pk port) tb tp t.neg t.kind t.pos t.size t.mask t.lo t.hi;have hsay:MW 16 [.agg ⟨AX t⟩,pv, .int .u32 port] M=some (.bool (CP t pk port),M):=qP hS.top hS.gl0 hS.pos hmt.1 hmt.2 hb hn hS.pk hp;obtain⟨x1,h1⟩:=B8 HR rfl FP ED q1 q2 (AA pi (AA pf (AA (OA hlt) (AA pi (AA pf (AA (show cV (j:Int) ts.length from⟨by omega,by omega⟩) (AA (bm (g:=AX) D0 htj ht) (AA hsay AT))))))));rw[Ka (by omega)]at h1;obtain⟨x2,j2,h2⟩:=Qg hS hb hn hp hg hv ht hl hm kk d (j+1) (by omega) jj x1 (CP t pk port) (by omega);rw[Bool.true_and];exact⟨x2,j2,Ck h1 h2⟩
theorem cW(hS:jH M pv pk)(hb:∀b∈pk,0<=b/\b<256)(hn:pk.length<=65535)(hp:0<=port/\port<4294967296)(hg:M.get rb= .cells own (vr.flatMap BX++rest)){i:Nat}(hi:vr[i]?=some (v,r))(hv:CX (Bm M) v r.tests)(hl:r.tests.length<=100)(hm:∀t∈r.tests,Dg t=true/\Dh t){kk jj:Nat}(hjj:101<=jj)(x:Nat->Value):
  ∃x' j',BT (l5 kk) jj (AB 48 (up x (ji (.slice (some ⟨rb,0,sp⟩) vr.length cap) pv port (i:Int) true 0))) M=some (.exit 2,AB 48 (up x' (ji (.slice (some ⟨rb,0,sp⟩) vr.length cap) pv port (i:Int) (r.tests.all (λt=>CP t pk port)) j')),M):=by
 have hli:i<vr.length:=(List.getElem?_eq_some_iff.1 hi).1
 obtain⟨a,tc,rfl,hv⟩:=hv
 by_cases e:r.tests= []
 ·obtain⟨jj,rfl⟩:∃j',jj=j'+1:=⟨jj - 1,by omega⟩;have hl0:r.tests.length=0:=by rw[e];rfl
  obtain⟨q1,q2⟩:=l4 kk x MW pv port (i:Int) 0 rb sp vr.length cap a r.tests.length tc M true;obtain⟨x1,h1⟩:=B8 HR rfl FP ED q1 q2 (AA (show cV (i:Int) vr.length from⟨by omega,by omega⟩) (AA (Kf hg hi rfl) (AA (by rw[hl0];exact OB (i:=0) (n:=0) (Nat.lt_irrefl _)) AT)));rw[e,List.all_nil];exact⟨x1,0,CY h1 (by simp)⟩
 ·obtain⟨b,tp,ot,tr,rfl,hk⟩:=hv e;obtain⟨x1,j1,h1⟩:=Qg (sp:=sp) (cap:=cap) hS hb hn hp hg hi (IY hk).2 hl hm kk r.tests.length 0 (by omega) jj x true (by omega);rw[Bool.true_and,List.drop_zero]at h1;exact⟨x1,j1,h1⟩
theorem jk(hS:jH M pv pk)(hb:∀b∈pk,0<=b/\b<256)(hn:pk.length<=65535)(hp:0<=port/\port<4294967296)(hg:M.get rb= .cells own (vr.flatMap BX++rest))(hlv:vr.length<=100){i:Nat}(hi:vr[i]?=some (v,r))(hv:CX (Bm M) v r.tests)(hl:r.tests.length<=100)(hm:∀t∈r.tests,Dg t=true/\Dh t){kk:Nat}(hkk:101<=kk)(x:Nat->Value):
  ∃x',Ke kk (AB 48 (up x (U6 (.slice (some ⟨rb,0,sp⟩) vr.length cap) pv port (i:Int)))) M=
   if r.tests.all (λt=>CP t pk port)=true then some (.ret,AB 48 (up x' [(6, .int .u32 r.verdict),(7, .int .i64 (i:Int))]),M)else some (.normal,AB 48 (up x' (U6 (.slice (some ⟨rb,0,sp⟩) vr.length cap) pv port ((i+1:Nat):Int))),M):=by
 have hlt:i<vr.length:=(List.getElem?_eq_some_iff.1 hi).1
 obtain⟨q1,q2⟩:=qQ kk x MW pv port (i:Int) vr.length cap (some ⟨rb,0,sp⟩) M true
 obtain⟨x1,h1⟩:=B8 HR rfl FP ED q1 q2 (AA (OA hlt) AT)
 obtain⟨q1,q2⟩:=xV kk x1 MW pv port (i:Int) M (.slice (some ⟨rb,0,sp⟩) vr.length cap)
 obtain⟨x2,h2⟩:=B8 HR rfl FP ED q1 q2 AT
 obtain⟨x3,j',h3⟩:=cW (sp:=sp) (cap:=cap) hS hb hn hp hg hi hv hl hm (kk:=kk) hkk x2
 have hcut:Ke kk (AB 48 (up x (U6 (.slice (some ⟨rb,0,sp⟩) vr.length cap) pv port (i:Int)))) M=AI Tryz.prog kp 1 UW (AV Tryz.prog kp 1 UW 48) 48 kk (.seq (.block 1 O0) (U5 OI 3)) (AB 48 (up x1 (U6 (.slice (some ⟨rb,0,sp⟩) vr.length cap) pv port (i:Int)))) M:=by
  rw[show Ke kk _ M=_ from Iq 2 OI h1,jh];rfl
 by_cases hh:r.tests.all (λt=>CP t pk port)=true
 ·rw[hh]at h3;obtain⟨q1,q2⟩:=uG kk x3 MW pv port (i:Int) j' rb sp vr.length cap M r.verdict;obtain⟨x4,h4⟩:=B8 HR rfl FP ED q1 q2 (AA (show cV (i:Int) vr.length from⟨by omega,by omega⟩) (AA (Kf hg hi rfl) AT));have hI:=(Ix 2 O0 Wj h2 h3).trans h4;exact⟨x4,by rw[if_pos hh];exact hcut.trans (aV hI (by simp) (by simp))⟩
 ·have hf:r.tests.all (λt=>CP t pk port)=false:=by simpa using hh
  rw[hf]at h3;obtain⟨q1,q2⟩:=uH kk x3 MW pv port (i:Int) j' M (.slice (some ⟨rb,0,sp⟩) vr.length cap);obtain⟨x4,h4⟩:=B8 HR rfl FP ED q1 q2 AT;have hI:=(Ix 2 O0 Wj h2 h3).trans h4;obtain⟨q1,q2⟩:=xW kk x4 MW pv port (i:Int) M (.slice (some ⟨rb,0,sp⟩) vr.length cap);obtain⟨x5,h5⟩:=B8 HR rfl FP ED q1 q2 AT;rw[Ka (by omega)]at h5;exact⟨x5,by rw[if_neg hh];exact hcut.trans ((aU hI).trans h5)⟩
theorem Wk(hS:jH M pv pk)(hb:∀b∈pk,0<=b/\b<256)(hn:pk.length<=65535)(hp:0<=port/\port<4294967296)(hg:M.get rb= .cells own (vr.flatMap BX++rest))(hlv:vr.length<=100)(hv:∀p∈vr,CX (Bm M) p.1 p.2.tests)(hm:∀p∈vr,p.2.tests.length<=100/\∀t∈p.2.tests,Dg t=true/\Dh t){kk:Nat}(hkk:101<=kk):
  ∀(d i:Nat),vr.length=i+d->∀(jj:Nat) (x:Nat->Value),d+1<=jj->
  ∃x',(BT (Ke kk) jj (AB 48 (up x (U6 (.slice (some ⟨rb,0,sp⟩) vr.length cap) pv port (i:Int)))) M=some (.ret,AB 48 (up x' [(6, .int .u32 (Bt pk port ((vr.map (·.2)).drop i))),(7, .int .i64 (EG pk port ((vr.map (·.2)).drop i) i))]),M)\/
   (BT (Ke kk) jj (AB 48 (up x (U6 (.slice (some ⟨rb,0,sp⟩) vr.length cap) pv port (i:Int)))) M=some (.exit 0,AB 48 (up x' (U6 (.slice (some ⟨rb,0,sp⟩) vr.length cap) pv port (vr.length:Int))),M)/\Bt pk port ((vr.map (·.2)).drop i)=0/\EG pk port ((vr.map (·.2)).drop i) i= -1))
 |0,i,hi,jj,x,hjj=>by
  obtain⟨jj,rfl⟩:∃j',jj=j'+1:=⟨jj - 1,by omega⟩;obtain rfl:i=vr.length:=by omega
  obtain⟨q1,q2⟩:=qQ kk x MW pv port (vr.length:Int) vr.length cap (some ⟨rb,0,sp⟩) M false;obtain⟨x1,h1⟩:=B8 HR rfl FP ED q1 q2 (AA (OB (Nat.lt_irrefl _)) AT);have h2:Ke kk _ M=_:=Jh 2 OI (by simp) h1;refine⟨x1, .inr ⟨CY h2 (by simp),?_,?_⟩⟩
  ·rw[List.drop_eq_nil_of_le (by rw[List.length_map];exact Nat.le_refl _)];rfl
  ·rw[List.drop_eq_nil_of_le (by rw[List.length_map];exact Nat.le_refl _)];rfl
 |d+1,i,hi,jj,x,hjj=>by
  obtain⟨jj,rfl⟩:∃j',jj=j'+1:=⟨jj - 1,by omega⟩;have hlt:i<vr.length:=by omega
  obtain⟨⟨v,r⟩,hr⟩:∃p,vr[i]?=some p:=⟨_,List.getElem?_eq_getElem hlt⟩;have hmem:=List.mem_of_getElem? hr;obtain⟨x1,h1⟩:=jk (cap:=cap) (sp:=sp) hS hb hn hp hg hlv hr (hv _ hmem) (hm _ hmem).1 (hm _ hmem).2 hkk x;have hd:(vr.map (·.2)).drop i=r::(vr.map (·.2)).drop (i+1):=S9 (by rw[List.getElem?_map,hr];rfl);rw[hd,Bt,EG];by_cases hh:r.tests.all (λt=>CP t pk port)=true
  ·rw[if_pos hh]at h1;rw[if_pos hh,if_pos hh];exact⟨x1, .inl (CY h1 (by simp))⟩
  ·rw[if_neg hh]at h1;rw[if_neg hh,if_neg hh];obtain⟨x2,h2⟩:=Wk hS hb hn hp hg hlv hv hm hkk d (i+1) (by omega) jj x1 (by omega);refine⟨x2,?_⟩;rcases h2 with h2|⟨h2,h3⟩
   ·exact .inl (Ck h1 h2)
   ·exact .inr ⟨Ck h1 h2,h3⟩
end
theorem jl{pv:Value}{port:Int}{a:Option Addr}{cap:Nat}{M:Mem}(kk jj:Nat)(x:Nat->Value):∃x',BT (Ke kk) (jj+1) (AB 48 (up x (U6 (.slice a 0 cap) pv port 0))) M=some (.exit 0,AB 48 (up x' (U6 (.slice a 0 cap) pv port 0)),M):=by
 obtain⟨q1,q2⟩:=qQ kk x MW pv port 0 0 cap a M false
 obtain⟨x1,h1⟩:=B8 HR rfl FP ED q1 q2 (AA (OB (i:=0) (n:=0) (Nat.lt_irrefl _)) AT)
 have h2:Ke kk _ M=_:=Jh 2 OI (by simp) h1
 exact⟨x1,CY h2 (by simp)⟩
theorem uJ:Tryz.prog.funcs[10]?=some Tryz.f10:=by kernel_rfl
theorem uK:Tryz.f10.body=some jg:=by kernel_rfl
theorem uL:Tryz.f10.ntmps=48:=by kernel_rfl
theorem uM(x:Nat->Value)(a b:Value)(M:Mem):DK Tryz.prog (AB 48 (up x [(6,a),(7,b)])) M Tryz.f10.results.toList=some [a,b]:=by kernel_rfl
theorem Qc{M:Mem}{pv v:Value}{pk:List Int}{port:Int}{rs:List BA}(hS:jH M pv pk)(hb:∀b∈pk,0<=b/\b<256)(hn:pk.length<=65535)(hp:0<=port/\port<4294967296)(hF:yP rs)(hv:CT (Bm M) v rs){kk:Nat}(hkk:101<=kk):
  Cu Tryz.prog kp 1 UW kk 10 [v,pv, .int .u32 port] M=some (.tuple ⟨[.int .u32 (Bt pk port rs), .int .i64 (EG pk port rs 0)]⟩,M):=by
 obtain⟨a,cap,rfl,hv⟩:=hv
 obtain⟨q1,q2⟩:=xX kk MW pv port rs.length cap a M
 obtain⟨x1,h1⟩:=B8 (x:=Bv [.slice a rs.length cap,pv, .int .u32 port]) HR rfl FP ED q1 q2 AT
 have fin:∀{x':Nat->Value} {A B:Value},AI Tryz.prog kp 1 UW (AV Tryz.prog kp 1 UW 48) 48 kk jg (AB 48 (Bv [.slice a rs.length cap,pv, .int .u32 port])) M=some (.ret,AB 48 (up x' [(6,A),(7,B)]),M)->Cu Tryz.prog kp 1 UW kk 10 [.slice a rs.length cap,pv, .int .u32 port] M=some (.tuple ⟨[A,B]⟩,M):=λh=>
  GP uJ uK (by rw[uL];rfl) h (uM ..)
 have ends:∀{x2:Nat->Value} {i:Int},BT (Ke kk) kk (AB 48 (up x1 (U6 (.slice a rs.length cap) pv port 0))) M=some (.exit 0,AB 48 (up x2 (U6 (.slice a rs.length cap) pv port i)),M)->Cu Tryz.prog kp 1 UW kk 10 [.slice a rs.length cap,pv, .int .u32 port] M=some (.tuple ⟨[.int .u32 0, .int .i64 (-1)]⟩,M):=λ{x2 i} h=>by
  obtain⟨q1,q2⟩:=xY kk x2 MW pv port i M (.slice a rs.length cap);obtain⟨x3,h3⟩:=B8 HR rfl FP ED q1 q2 AT;exact fin ((Ix 2 jg cU h1 h).trans h3)
 by_cases e:rs= []
 ·subst e;obtain⟨kk,rfl⟩:∃k',kk=k'+1:=⟨kk - 1,by omega⟩;obtain⟨x2,h2⟩:=jl (pv:=pv) (port:=port) (a:=a) (cap:=cap) (M:=M) (kk+1) kk x1;exact ends h2
 ·obtain⟨b,sp,own,rest,vr,rfl,hm,hk,hts⟩:=hv e;have hk:=IY hk;have hlen:rs.length=vr.length:=by rw[←hm,List.length_map]
  have hF2:∀p∈vr,p.2.tests.length<=100/\∀t∈p.2.tests,Dg t=true/\Dh t:=λp hp=>hF.2 _ (by rw[←hm];exact List.mem_map.2 ⟨p,hp,rfl⟩);obtain⟨x2,h2⟩:=Wk (cap:=cap) (sp:=sp) hS hb hn hp hk.2 (by rw[←hlen];exact hF.1) hts hF2 hkk vr.length 0 (by omega) kk x1 (by have:=hF.1;omega);rw[List.drop_zero,hm,←hlen]at h2;rcases h2 with h2|⟨h2,h3,h4⟩
  ·exact fin (Ni 2 jg cU h1 h2 (by simp) (by simp))
  ·rw[h3,h4];exact ends h2
set_option maxHeartbeats 4000000
variable{α:Type}(x:Nat->Value)(cf:Y.CF α)(L:Y.LK α)(k:Nat)(m:Mem)
noncomputable def c7:Code:=D3 [4,5,6,11] (BK Tryz.f8 0)
noncomputable def XQ:List Oper:=CA 4 (AM Tryz.f8)
noncomputable def XR:List Oper:=CA 5 (AM Tryz.f8)
noncomputable def fZ:List Oper:=CA 6 (AM Tryz.f8)
noncomputable def JC:List Oper:=CA 11 (AM Tryz.f8)
noncomputable def ZT:Code:=D3 [8,9] (BK Tryz.f8 1)
noncomputable def XS:List Oper:=CA 8 (AM Tryz.f8)
noncomputable def OM:List Oper:=CA 9 (AM Tryz.f8)
theorem Z2(ra:Option Addr)(rn rc:Nat)(q:Value->Mem->Option α):Y.codeF (AM Tryz.f8) Tryz.prog kp 1 (Y.cfT Tryz.prog cf) L 52 k (AB 52 (Bv [.slice ra rn rc])) m (Y.retF Tryz.prog Tryz.f8 q)=
 (L (λt m q=>Y.codeF (Y.loopC (AM Tryz.f8) 0) Tryz.prog kp 1 (Y.cfT Tryz.prog cf) L 52 k t m q) (Y.loopC (AM Tryz.f8) 0) k (AB 52 (up (up Go.DI.x0 [(0,.slice ra rn rc),(2,.slice none 0 0)]) [(3,.slice none 0 0),(9,.slice ra rn rc),(10,.int .i64 (Int.ofNat rn)),(11,.int .i64 0)])) m (Y.kont Tryz.prog kp 1 (Y.cfT Tryz.prog cf) L 52 k (AM Tryz.f8) 0 (Y.retF Tryz.prog Tryz.f8 q))):=by kernel_rfl
theorem Z0(oa:Option Addr)(on:Nat)(rb:Nat)(rp:Option Nat)(rn rc:Nat)(i:Int)(q:Y.ExK α):Y.codeF c7 Tryz.prog kp 1 (Y.cfT Tryz.prog cf) L 52 k (AB 52 (up x [(3,.slice oa on on),(9,.slice (some ⟨rb,0,rp⟩) rn rc),(10,.int .i64 rn),(11,.int .i64 i)])) m q=
 (cond (Y.ltF i (Int.ofNat rn)) (L (λt m q=>Y.codeF (Y.loopC c7 0) Tryz.prog kp 1 (Y.cfT Tryz.prog cf) L 52 k t m q) (Y.loopC c7 0) k (AB 52 (up (up x [(12,.bool true)]) [(3,.slice oa on on),(9,.slice (some (Addr.mk rb 0 rp)) rn rc),(10,.int .i64 (Int.ofNat rn)),(11,.int .i64 i)])) m (Y.kont Tryz.prog kp 1 (Y.cfT Tryz.prog cf) L 52 k c7 0 q)) (q (Ex.exit 0) (AB 52 (up (up x [(12,.bool false)]) [(3,.slice oa on on),(9,.slice (some (Addr.mk rb 0 rp)) rn rc),(10,.int .i64 (Int.ofNat rn)),(11,.int .i64 i)])) m)):=by kernel_rfl
theorem m9(oa:Option Addr)(on:Nat)(rb:Nat)(rp:Option Nat)(rn rc:Nat)(i:Int)(q:AF->Mem->Option α):Y.opsF (List.take 3 XQ) Tryz.prog kp 1 (Y.cfT Tryz.prog cf) 52 XQ (AB 52 (up x [(3,.slice oa on on),(9,.slice (some ⟨rb,0,rp⟩) rn rc),(10,.int .i64 rn),(11,.int .i64 i)])) m q=
 (Y.onNat i (λA=>cond (Nat.blt A rn) (Y.cellsOf (Mem.get m rb) (λ_ B=>cond (Nat.ble (Nat.add (Nat.add 0 (Nat.mul A 2)) 2) (Y.lenLF B)) (q (AB 52 (up (up x [(13,.pointer (some ⟨rb,Nat.add 0 (Nat.mul A 2),none⟩))]) [(3,.slice oa on on),(5,.pointer (some ⟨Mem.size m,0,none⟩)),(9,.slice (some (Addr.mk rb 0 rp)) rn rc),(10,.int .i64 (Int.ofNat rn)),(11,.int .i64 i),(14,.agg ⟨Y.subL B (Nat.add 0 (Nat.mul A 2)) 2⟩)])) (Mem.push m (.cells true [.slice none 0 0,.int .u32 0]))) none)) none)):=by kernel_rfl
theorem mb(oa:Option Addr)(on:Nat)(rb:Nat)(rp:Option Nat)(rn rc:Nat)(i:Int)(xb:Nat)(q:Y.ExK α):Y.kont Tryz.prog kp 1 (Y.cfT Tryz.prog cf) L 52 k c7 0 q .normal (AB 52 (up x [(3,.slice oa on on),(5,.pointer (some ⟨xb,0,none⟩)),(9,.slice (some ⟨rb,0,rp⟩) rn rc),(10,.int .i64 rn),(11,.int .i64 i)])) m=
 (L (λt m q=>Y.codeF (Y.loopC c7 1) Tryz.prog kp 1 (Y.cfT Tryz.prog cf) L 52 k t m q) (Y.loopC c7 1) k (AB 52 (up x [(3,.slice oa on on),(5,.pointer (some ⟨xb,0,none⟩)),(9,.slice (some (Addr.mk rb 0 rp)) rn rc),(10,.int .i64 (Int.ofNat rn)),(11,.int .i64 i)])) m (Y.kont Tryz.prog kp 1 (Y.cfT Tryz.prog cf) L 52 k c7 1 q)):=by kernel_rfl
theorem mc(oa:Option Addr)(on:Nat)(rb:Nat)(rp:Option Nat)(rn rc:Nat)(i:Int)(xb:Nat)(q:AF->Mem->Option α):Y.opsF (List.take 4 XR) Tryz.prog kp 1 (Y.cfT Tryz.prog cf) 52 XR (AB 52 (up x [(3,.slice oa on on),(5,.pointer (some ⟨xb,0,none⟩)),(9,.slice (some ⟨rb,0,rp⟩) rn rc),(10,.int .i64 rn),(11,.int .i64 i)])) m q=
 (Y.cellsOf (Mem.get m xb) (λ_ B=>Option.elim (Y.nthL B 1) none (λC=>Y.asInt C (λD A=>cond (Y.kEq .u32 D) (q (AB 52 (up (up x [(16,.int .u32 A),(15,.pointer (some ⟨xb,1,none⟩))]) [(3,.slice oa on on),(5,.pointer (some ⟨xb,0,none⟩)),(6,.pointer (some ⟨Mem.size m,0,none⟩)),(9,.slice (some (Addr.mk rb 0 rp)) rn rc),(10,.int .i64 (Int.ofNat rn)),(11,.int .i64 i),(17,.agg ⟨[.slice none 0 0,.int .u32 A]⟩)])) (Mem.push m (.cells true [.slice none 0 0,.int .u32 0]))) none) none))):=by kernel_rfl
theorem me(oa:Option Addr)(on:Nat)(rb:Nat)(rp:Option Nat)(rn rc:Nat)(i:Int)(xb:Nat)(yb:Nat)(q:Y.ExK α):Y.kont Tryz.prog kp 1 (Y.cfT Tryz.prog cf) L 52 k c7 1 q .normal (AB 52 (up x [(3,.slice oa on on),(5,.pointer (some ⟨xb,0,none⟩)),(6,.pointer (some ⟨yb,0,none⟩)),(9,.slice (some ⟨rb,0,rp⟩) rn rc),(10,.int .i64 rn),(11,.int .i64 i)])) m=
 (L (λt m q=>Y.codeF (Y.loopC c7 2) Tryz.prog kp 1 (Y.cfT Tryz.prog cf) L 52 k t m q) (Y.loopC c7 2) k (AB 52 (up x [(3,.slice oa on on),(5,.pointer (some ⟨xb,0,none⟩)),(6,.pointer (some ⟨yb,0,none⟩)),(9,.slice (some (Addr.mk rb 0 rp)) rn rc),(10,.int .i64 (Int.ofNat rn)),(11,.int .i64 i)])) m (Y.kont Tryz.prog kp 1 (Y.cfT Tryz.prog cf) L 52 k c7 2 q)):=by kernel_rfl
theorem mf(oa:Option Addr)(on:Nat)(rb:Nat)(rp:Option Nat)(rn rc:Nat)(i:Int)(xb:Nat)(yb:Nat)(q:AF->Mem->Option α):Y.opsF (fZ) Tryz.prog kp 1 (Y.cfT Tryz.prog cf) 52 fZ (AB 52 (up x [(3,.slice oa on on),(5,.pointer (some ⟨xb,0,none⟩)),(6,.pointer (some ⟨yb,0,none⟩)),(9,.slice (some ⟨rb,0,rp⟩) rn rc),(10,.int .i64 rn),(11,.int .i64 i)])) m q=
 (Y.cellsOf (Mem.get m xb) (λ_ B=>Option.elim (Y.nthL B 0) none (λC=>Y.asSl C (λD A E=>q (AB 52 (up (up x [(18,.pointer (some ⟨xb,0,none⟩)),(5,.pointer (some ⟨xb,0,none⟩))]) [(3,.slice oa on on),(6,.pointer (some ⟨yb,0,none⟩)),(9,.slice (some (Addr.mk rb 0 rp)) rn rc),(10,.int .i64 (Int.ofNat rn)),(11,.int .i64 i),(19,.slice D A E),(20,.int .i64 (Int.ofNat A)),(21,.int .i64 0)])) m) none))):=by kernel_rfl
theorem mg(oa:Option Addr)(on:Nat)(rb:Nat)(rp:Option Nat)(rn rc:Nat)(i:Int)(yb:Nat)(ta:Option Addr)(tn tc:Nat)(j:Int)(q:Y.ExK α):Y.kont Tryz.prog kp 1 (Y.cfT Tryz.prog cf) L 52 k c7 2 q .normal (AB 52 (up x [(3,.slice oa on on),(6,.pointer (some ⟨yb,0,none⟩)),(9,.slice (some ⟨rb,0,rp⟩) rn rc),(10,.int .i64 rn),(11,.int .i64 i),(19,.slice ta tn tc),(20,.int .i64 tn),(21,.int .i64 j)])) m=
 (L (λt m q=>Y.codeF (Y.loopC c7 3) Tryz.prog kp 1 (Y.cfT Tryz.prog cf) L 52 k t m q) (Y.loopC c7 3) k (AB 52 (up x [(3,.slice oa on on),(6,.pointer (some ⟨yb,0,none⟩)),(9,.slice (some (Addr.mk rb 0 rp)) rn rc),(10,.int .i64 (Int.ofNat rn)),(11,.int .i64 i),(19,.slice ta tn tc),(20,.int .i64 (Int.ofNat tn)),(21,.int .i64 j)])) m (Y.kont Tryz.prog kp 1 (Y.cfT Tryz.prog cf) L 52 k c7 3 q)):=by kernel_rfl
theorem mh(oa:Option Addr)(on:Nat)(rb:Nat)(rp:Option Nat)(rn rc:Nat)(i:Int)(yb:Nat)(ta:Option Addr)(tn tc:Nat)(j:Int)(q:Y.ExK α):Y.kont Tryz.prog kp 1 (Y.cfT Tryz.prog cf) L 52 k c7 3 q (.exit 2) (AB 52 (up x [(3,.slice oa on on),(6,.pointer (some ⟨yb,0,none⟩)),(9,.slice (some ⟨rb,0,rp⟩) rn rc),(10,.int .i64 rn),(11,.int .i64 i),(19,.slice ta tn tc),(20,.int .i64 tn),(21,.int .i64 j)])) m=
 (L (λt m q=>Y.codeF (Y.loopC c7 4) Tryz.prog kp 1 (Y.cfT Tryz.prog cf) L 52 k t m q) (Y.loopC c7 4) k (AB 52 (up (up x [(20,.int .i64 (Int.ofNat tn)),(21,.int .i64 j),(19,.slice ta tn tc)]) [(3,.slice oa on on),(6,.pointer (some ⟨yb,0,none⟩)),(9,.slice (some (Addr.mk rb 0 rp)) rn rc),(10,.int .i64 (Int.ofNat rn)),(11,.int .i64 i)])) m (Y.kont Tryz.prog kp 1 (Y.cfT Tryz.prog cf) L 52 k c7 4 q)):=by kernel_rfl
theorem fm(oa:Option Addr)(on:Nat)(rb:Nat)(rp:Option Nat)(rn rc:Nat)(i:Int)(yb:Nat)(q:AF->Mem->Option α):Y.opsF (List.take 2 JC) Tryz.prog kp 1 (Y.cfT Tryz.prog cf) 52 JC (AB 52 (up x [(3,.slice oa on on),(6,.pointer (some ⟨yb,0,none⟩)),(9,.slice (some ⟨rb,0,rp⟩) rn rc),(10,.int .i64 rn),(11,.int .i64 i)])) m q=
 (Y.cellsOf (Mem.get m yb) (λ_ A=>cond (Nat.ble 2 (Y.lenLF A)) (q (AB 52 (up (up x [(6,.pointer (some ⟨yb,0,none⟩)),(3,.slice oa on on)]) [(9,.slice (some (Addr.mk rb 0 rp)) rn rc),(10,.int .i64 (Int.ofNat rn)),(11,.int .i64 i),(46,.slice oa on on),(47,.agg ⟨Y.subL A 0 2⟩)])) m) none)):=by kernel_rfl
theorem Z1(w9 w10 w11:Value)(oa ya:Option Addr)(on yn yc:Nat)(ve:Int)(q:AF->Mem->Option α):Y.opsF (List.take 1 (List.drop 2 JC)) Tryz.prog kp 1 (Y.cfT Tryz.prog cf) 52 JC (AB 52 (up x [(9,w9),(10,w10),(11,w11),(46,.slice oa on on),(47,.agg ⟨[.slice ya yn yc,.int .u32 ve]⟩)])) m q=
 (q (AB 52 (up (up x [(47,.agg ⟨[.slice ya yn yc,.int .u32 ve]⟩)]) [(9,w9),(10,w10),(11,w11),(46,.slice oa on on),(48,.slice (some ⟨Mem.size m,0,none⟩) 1 1)])) (Mem.push m (.cells true [.slice ya yn yc,.int .u32 ve]))):=by kernel_rfl
theorem mi(oa:Option Addr)(on:Nat)(rb:Nat)(rp:Option Nat)(rn rc:Nat)(i:Int)(q:Y.ExK α):Y.kont Tryz.prog kp 1 (Y.cfT Tryz.prog cf) L 52 k c7 4 q .normal (AB 52 (up x [(3,.slice oa on on),(9,.slice (some ⟨rb,0,rp⟩) rn rc),(10,.int .i64 rn),(11,.int .i64 i)])) m=
 (q .normal (AB 52 (up (up x [(50,.int .i64 (IntKind.wrap .i64 (Int.add i 1)))]) [(3,.slice oa on on),(9,.slice (some (Addr.mk rb 0 rp)) rn rc),(10,.int .i64 (Int.ofNat rn)),(11,.int .i64 (IntKind.wrap .i64 (Int.add i 1)))])) m):=by kernel_rfl
theorem ZV(oa:Option Addr)(on:Nat)(rb:Nat)(rp:Option Nat)(rn rc:Nat)(i:Int)(yb tb:Nat)(tp:Option Nat)(tn tc:Nat)(j:Int)(q:Y.ExK α):Y.codeF ZT Tryz.prog kp 1 (Y.cfT Tryz.prog cf) L 52 k (AB 52 (up x [(3,.slice oa on on),(6,.pointer (some ⟨yb,0,none⟩)),(9,.slice (some ⟨rb,0,rp⟩) rn rc),(10,.int .i64 rn),(11,.int .i64 i),(19,.slice (some ⟨tb,0,tp⟩) tn tc),(20,.int .i64 tn),(21,.int .i64 j)])) m q=
 (cond (Y.ltF j (Int.ofNat tn)) (L (λt m q=>Y.codeF (Y.loopC ZT 0) Tryz.prog kp 1 (Y.cfT Tryz.prog cf) L 52 k t m q) (Y.loopC ZT 0) k (AB 52 (up (up x [(22,.bool true)]) [(3,.slice oa on on),(6,.pointer (some ⟨yb,0,none⟩)),(9,.slice (some (Addr.mk rb 0 rp)) rn rc),(10,.int .i64 (Int.ofNat rn)),(11,.int .i64 i),(19,.slice (some (Addr.mk tb 0 tp)) tn tc),(20,.int .i64 (Int.ofNat tn)),(21,.int .i64 j)])) m (Y.kont Tryz.prog kp 1 (Y.cfT Tryz.prog cf) L 52 k ZT 0 q)) (q (Ex.exit 2) (AB 52 (up (up x [(22,.bool false)]) [(3,.slice oa on on),(6,.pointer (some ⟨yb,0,none⟩)),(9,.slice (some (Addr.mk rb 0 rp)) rn rc),(10,.int .i64 (Int.ofNat rn)),(11,.int .i64 i),(19,.slice (some (Addr.mk tb 0 tp)) tn tc),(20,.int .i64 (Int.ofNat tn)),(21,.int .i64 j)])) m)):=by kernel_rfl
theorem m5(oa:Option Addr)(on:Nat)(rb:Nat)(rp:Option Nat)(rn rc:Nat)(i:Int)(yb tb:Nat)(tp:Option Nat)(tn tc:Nat)(j:Int)(q:AF->Mem->Option α):Y.opsF (List.take 3 XS) Tryz.prog kp 1 (Y.cfT Tryz.prog cf) 52 XS (AB 52 (up x [(3,.slice oa on on),(6,.pointer (some ⟨yb,0,none⟩)),(9,.slice (some ⟨rb,0,rp⟩) rn rc),(10,.int .i64 rn),(11,.int .i64 i),(19,.slice (some ⟨tb,0,tp⟩) tn tc),(20,.int .i64 tn),(21,.int .i64 j)])) m q=
 (Y.onNat j (λA=>cond (Nat.blt A tn) (Y.cellsOf (Mem.get m tb) (λ_ B=>cond (Nat.ble (Nat.add (Nat.add 0 (Nat.mul A 7)) 7) (Y.lenLF B)) (q (AB 52 (up (up x [(23,.pointer (some ⟨tb,Nat.add 0 (Nat.mul A 7),none⟩))]) [(3,.slice oa on on),(6,.pointer (some ⟨yb,0,none⟩)),(8,.pointer (some ⟨Mem.size m,0,none⟩)),(9,.slice (some (Addr.mk rb 0 rp)) rn rc),(10,.int .i64 (Int.ofNat rn)),(11,.int .i64 i),(19,.slice (some (Addr.mk tb 0 tp)) tn tc),(20,.int .i64 (Int.ofNat tn)),(21,.int .i64 j),(24,.agg ⟨Y.subL B (Nat.add 0 (Nat.mul A 7)) 7⟩)])) (Mem.push m (.cells true [.bool false,.int .i64 0,.int .i64 0,.int .i64 0,.int .u64 0,.int .u64 0,.int .u64 0]))) none)) none)):=by kernel_rfl
theorem m6(oa:Option Addr)(on:Nat)(rb:Nat)(rp:Option Nat)(rn rc:Nat)(i:Int)(yb tb:Nat)(tp:Option Nat)(tn tc:Nat)(j:Int)(zb:Nat)(q:Y.ExK α):Y.kont Tryz.prog kp 1 (Y.cfT Tryz.prog cf) L 52 k ZT 0 q .normal (AB 52 (up x [(3,.slice oa on on),(6,.pointer (some ⟨yb,0,none⟩)),(8,.pointer (some ⟨zb,0,none⟩)),(9,.slice (some ⟨rb,0,rp⟩) rn rc),(10,.int .i64 rn),(11,.int .i64 i),(19,.slice (some ⟨tb,0,tp⟩) tn tc),(20,.int .i64 tn),(21,.int .i64 j)])) m=
 (L (λt m q=>Y.codeF (Y.loopC ZT 1) Tryz.prog kp 1 (Y.cfT Tryz.prog cf) L 52 k t m q) (Y.loopC ZT 1) k (AB 52 (up x [(3,.slice oa on on),(6,.pointer (some ⟨yb,0,none⟩)),(8,.pointer (some ⟨zb,0,none⟩)),(9,.slice (some (Addr.mk rb 0 rp)) rn rc),(10,.int .i64 (Int.ofNat rn)),(11,.int .i64 i),(19,.slice (some (Addr.mk tb 0 tp)) tn tc),(20,.int .i64 (Int.ofNat tn)),(21,.int .i64 j)])) m (Y.kont Tryz.prog kp 1 (Y.cfT Tryz.prog cf) L 52 k ZT 1 q)):=by kernel_rfl
theorem m7(oa:Option Addr)(on:Nat)(rb:Nat)(rp:Option Nat)(rn rc:Nat)(i:Int)(yb tb:Nat)(tp:Option Nat)(tn tc:Nat)(j:Int)(zb:Nat)(q:AF->Mem->Option α):Y.opsF (List.take 17 OM) Tryz.prog kp 1 (Y.cfT Tryz.prog cf) 52 OM (AB 52 (up x [(3,.slice oa on on),(6,.pointer (some ⟨yb,0,none⟩)),(8,.pointer (some ⟨zb,0,none⟩)),(9,.slice (some ⟨rb,0,rp⟩) rn rc),(10,.int .i64 rn),(11,.int .i64 i),(19,.slice (some ⟨tb,0,tp⟩) tn tc),(20,.int .i64 tn),(21,.int .i64 j)])) m q=
 (Y.cellsOf (Mem.get m yb) (λ_ H=>Option.elim (Y.nthL H 0) none (λI=>Y.asSl I (λJ N O=>Y.cellsOf (Mem.get m zb) (λ_ Q=>Option.elim (Y.nthL Q 0) none (λR=>Y.asBo R (λA=>Y.cellsOf (Mem.get m zb) (λ_ S=>Option.elim (Y.nthL S 1) none (λT=>Y.asInt T (λU B=>cond (Y.kEq .i64 U) (Y.cellsOf (Mem.get m zb) (λ_ V=>Option.elim (Y.nthL V 2) none (λW=>Y.asInt W (λX C=>cond (Y.kEq .i64 X) (Y.cellsOf (Mem.get m zb) (λ_ Z=>Option.elim (Y.nthL Z 3) none (λAa=>Y.asInt Aa (λAb D=>cond (Y.kEq .i64 Ab) (Y.cellsOf (Mem.get m zb) (λ_ Ac=>Option.elim (Y.nthL Ac 4) none (λAd=>Y.asInt Ad (λAe E=>cond (Y.kEq .u64 Ae) (Y.cellsOf (Mem.get m zb) (λ_ Af=>Option.elim (Y.nthL Af 5) none (λAg=>Y.asInt Ag (λAh F=>cond (Y.kEq .u64 Ah) (Y.cellsOf (Mem.get m zb) (λ_ Ai=>Option.elim (Y.nthL Ai 6) none (λAj=>Y.asInt Aj (λAk G=>cond (Y.kEq .u64 Ak) (q (AB 52 (up (up x [(32,.int .i64 C),(8,.pointer (some ⟨zb,0,none⟩)),(40,.int .u64 G),(36,.int .u64 E),(28,.bool A),(34,.int .i64 D),(38,.int .u64 F),(30,.int .i64 B),(33,.pointer (some ⟨zb,3,none⟩)),(25,.pointer (some ⟨yb,0,none⟩)),(37,.pointer (some ⟨zb,5,none⟩)),(29,.pointer (some ⟨zb,1,none⟩)),(35,.pointer (some ⟨zb,4,none⟩)),(27,.pointer (some ⟨zb,0,none⟩)),(39,.pointer (some ⟨zb,6,none⟩)),(31,.pointer (some ⟨zb,2,none⟩))]) [(3,.slice oa on on),(6,.pointer (some ⟨yb,0,none⟩)),(9,.slice (some (Addr.mk rb 0 rp)) rn rc),(10,.int .i64 (Int.ofNat rn)),(11,.int .i64 i),(19,.slice (some (Addr.mk tb 0 tp)) tn tc),(20,.int .i64 (Int.ofNat tn)),(21,.int .i64 j),(26,.slice J N O),(41,.agg ⟨[.bool A,.int .i64 B,.int .i64 C,.int .i64 D,.int .u64 E,.int .u64 F,.int .u64 G]⟩)])) m) none) none))) none) none))) none) none))) none) none))) none) none))) none) none))) none))) none))):=by kernel_rfl
theorem fk(oa:Option Addr)(on:Nat)(rb:Nat)(rp:Option Nat)(rn rc:Nat)(i:Int)(yb tb:Nat)(tp:Option Nat)(tn tc:Nat)(j:Int)(w26:Value)(g:Bool)(ki p s ma lo hi:Int)(q:AF->Mem->Option α):Y.opsF (List.take 1 (List.drop 17 OM)) Tryz.prog kp 1 (Y.cfT Tryz.prog cf) 52 OM (AB 52 (up x [(3,.slice oa on on),(6,.pointer (some ⟨yb,0,none⟩)),(9,.slice (some ⟨rb,0,rp⟩) rn rc),(10,.int .i64 rn),(11,.int .i64 i),(19,.slice (some ⟨tb,0,tp⟩) tn tc),(20,.int .i64 tn),(21,.int .i64 j),(26,w26),(41,.agg ⟨[.bool g,.int .i64 ki,.int .i64 p,.int .i64 s,.int .u64 ma,.int .u64 lo,.int .u64 hi]⟩)])) m q=
 (q (AB 52 (up (up x [(41,.agg ⟨[.bool g,.int .i64 ki,.int .i64 p,.int .i64 s,.int .u64 ma,.int .u64 lo,.int .u64 hi]⟩)]) [(3,.slice oa on on),(6,.pointer (some ⟨yb,0,none⟩)),(9,.slice (some (Addr.mk rb 0 rp)) rn rc),(10,.int .i64 (Int.ofNat rn)),(11,.int .i64 i),(19,.slice (some (Addr.mk tb 0 tp)) tn tc),(20,.int .i64 (Int.ofNat tn)),(21,.int .i64 j),(26,w26),(42,.slice (some ⟨Mem.size m,0,none⟩) 1 1)])) (Mem.push m (.cells true [.bool g,.int .i64 ki,.int .i64 p,.int .i64 s,.int .u64 ma,.int .u64 lo,.int .u64 hi]))):=by kernel_rfl
theorem m8(oa:Option Addr)(on:Nat)(rb:Nat)(rp:Option Nat)(rn rc:Nat)(i:Int)(yb tb:Nat)(tp:Option Nat)(tn tc:Nat)(j:Int)(q:Y.ExK α):Y.kont Tryz.prog kp 1 (Y.cfT Tryz.prog cf) L 52 k ZT 1 q .normal (AB 52 (up x [(3,.slice oa on on),(6,.pointer (some ⟨yb,0,none⟩)),(9,.slice (some ⟨rb,0,rp⟩) rn rc),(10,.int .i64 rn),(11,.int .i64 i),(19,.slice (some ⟨tb,0,tp⟩) tn tc),(20,.int .i64 tn),(21,.int .i64 j)])) m=
 (q .normal (AB 52 (up (up x [(45,.int .i64 (IntKind.wrap .i64 (Int.add j 1)))]) [(3,.slice oa on on),(6,.pointer (some ⟨yb,0,none⟩)),(9,.slice (some (Addr.mk rb 0 rp)) rn rc),(10,.int .i64 (Int.ofNat rn)),(11,.int .i64 i),(19,.slice (some (Addr.mk tb 0 tp)) tn tc),(20,.int .i64 (Int.ofNat tn)),(21,.int .i64 (IntKind.wrap .i64 (Int.add j 1)))])) m):=by kernel_rfl
theorem XT(oa:Option Addr)(on:Nat)(w9 w10 w11:Value)(q:Value->Mem->Option α):Y.kont Tryz.prog kp 1 (Y.cfT Tryz.prog cf) L 52 k (AM Tryz.f8) 0 (Y.retF Tryz.prog Tryz.f8 q) (.exit 0) (AB 52 (up x [(3,.slice oa on on),(9,w9),(10,w10),(11,w11)])) m=
 (q (.slice oa on on) m):=by kernel_rfl
end
end Go.Proofs.YtgjflcgmieiafaaGreatDoor
namespace Go.Proofs.YtgjflcgmieiafaaGreatDoor
open Go Go.DI Go.DI.Kit Go.Proofs Go.Cmp
noncomputable section
theorem at7:Tryz.prog.funcs[8]?=some Tryz.f8:=by kernel_rfl
theorem bd7:Tryz.f8.body=some (AM Tryz.f8):=by kernel_rfl
theorem nt7:Tryz.f8.ntmps=52:=by kernel_rfl
theorem n7{a:Value}:max [a].length Tryz.f8.ntmps=52:=by rw[nt7];rfl
theorem rV{a:Option Addr}{n c:Nat}:I5 Tryz.prog 8 (.slice a n c)=true:=by kernel_rfl
theorem rW:Tryz.prog.underlying 48=some (.slice 52):=by kernel_rfl
theorem uz:Bz Tryz.prog 48=some 1:=by kernel_rfl
theorem vA:bytesOf Tryz.prog 52=some 56:=by kernel_rfl
theorem vB:(Df Tryz.prog 52 1).isSome=true:=by kernel_rfl
theorem kg:Tryz.prog.underlying 36=some (.slice 50):=by kernel_rfl
theorem rX:bytesOf Tryz.prog 50=some 32:=by kernel_rfl
theorem rY:(Df Tryz.prog 50 1).isSome=true:=by kernel_rfl
theorem vC:Bz Tryz.prog 57=some 7:=by kernel_rfl
section
variable{α:Type}(x:Nat->Value)(cf:Y.CF α)(L:Y.LK α)(k:Nat)(m:Mem)
theorem fW(t:AF)(q:Y.ExK α):Y.codeF (Y.loopC c7 0) Tryz.prog kp 1 (Y.cfT Tryz.prog cf) L 52 k t m q=Y.opsF XQ Tryz.prog kp 1 (Y.cfT Tryz.prog cf) 52 XQ t m λt m=>q .normal t m:=by kernel_rfl
theorem fX(t:AF)(q:Y.ExK α):Y.codeF (Y.loopC c7 1) Tryz.prog kp 1 (Y.cfT Tryz.prog cf) L 52 k t m q=Y.opsF XR Tryz.prog kp 1 (Y.cfT Tryz.prog cf) 52 XR t m λt m=>q .normal t m:=by kernel_rfl
theorem fY(t:AF)(q:Y.ExK α):Y.codeF (Y.loopC c7 2) Tryz.prog kp 1 (Y.cfT Tryz.prog cf) L 52 k t m q=Y.opsF fZ Tryz.prog kp 1 (Y.cfT Tryz.prog cf) 52 fZ t m λt m=>q .normal t m:=by kernel_rfl
theorem ZS(t:AF)(q:Y.ExK α):Y.codeF (Y.loopC c7 4) Tryz.prog kp 1 (Y.cfT Tryz.prog cf) L 52 k t m q=Y.opsF JC Tryz.prog kp 1 (Y.cfT Tryz.prog cf) 52 JC t m λt m=>q .normal t m:=by kernel_rfl
theorem fa(t:AF)(q:Y.ExK α):Y.codeF (Y.loopC ZT 0) Tryz.prog kp 1 (Y.cfT Tryz.prog cf) L 52 k t m q=Y.opsF XS Tryz.prog kp 1 (Y.cfT Tryz.prog cf) 52 XS t m λt m=>q .normal t m:=by kernel_rfl
theorem fb(t:AF)(q:Y.ExK α):Y.codeF (Y.loopC ZT 1) Tryz.prog kp 1 (Y.cfT Tryz.prog cf) L 52 k t m q=Y.opsF OM Tryz.prog kp 1 (Y.cfT Tryz.prog cf) 52 OM t m λt m=>q .normal t m:=by kernel_rfl
theorem fc(b:Nat)(w3 w9 w10 w11 u:Value)(q:AF->Mem->Option α):Y.opsF (List.drop 3 XQ) Tryz.prog kp 1 (Y.cfT Tryz.prog cf) 52 XQ (AB 52 (up x [(3,w3),(5, .pointer (some ⟨b,0,none⟩)),(9,w9),(10,w10),(11,w11),(14,u)])) m q=
 Y.storeF Tryz.prog m 55 u (.pointer (some ⟨b,0,none⟩)) λm'=>q (AB 52 (up (up x [(14,u)]) [(3,w3),(5, .pointer (some ⟨b,0,none⟩)),(9,w9),(10,w10),(11,w11)])) m':=by kernel_rfl
theorem fe(b:Nat)(w3 w5 w9 w10 w11 u:Value)(q:AF->Mem->Option α):Y.opsF (List.drop 4 XR) Tryz.prog kp 1 (Y.cfT Tryz.prog cf) 52 XR (AB 52 (up x [(3,w3),(5,w5),(6, .pointer (some ⟨b,0,none⟩)),(9,w9),(10,w10),(11,w11),(17,u)])) m q=
 Y.storeF Tryz.prog m 50 u (.pointer (some ⟨b,0,none⟩)) λm'=>q (AB 52 (up (up x [(17,u)]) [(3,w3),(5,w5),(6, .pointer (some ⟨b,0,none⟩)),(9,w9),(10,w10),(11,w11)])) m':=by kernel_rfl
theorem ff(b:Nat)(w3 w6 w9 w10 w11 w19 w20 w21 u:Value)(q:AF->Mem->Option α):Y.opsF (List.drop 3 XS) Tryz.prog kp 1 (Y.cfT Tryz.prog cf) 52 XS (AB 52 (up x [(3,w3),(6,w6),(8, .pointer (some ⟨b,0,none⟩)),(9,w9),(10,w10),(11,w11),(19,w19),(20,w20),(21,w21),(24,u)])) m q=
 Y.storeF Tryz.prog m 57 u (.pointer (some ⟨b,0,none⟩)) λm'=>q (AB 52 (up (up x [(24,u)]) [(3,w3),(6,w6),(8, .pointer (some ⟨b,0,none⟩)),(9,w9),(10,w10),(11,w11),(19,w19),(20,w20),(21,w21)])) m':=by kernel_rfl
theorem fg(b:Nat)(w3 w9 w10 w11 w19 w20 w21 u v:Value)(q:AF->Mem->Option α):Y.opsF (List.drop 18 OM) Tryz.prog kp 1 (Y.cfT Tryz.prog cf) 52 OM (AB 52 (up x [(3,w3),(6, .pointer (some ⟨b,0,none⟩)),(9,w9),(10,w10),(11,w11),(19,w19),(20,w20),(21,w21),(26,u),(42,v)])) m q=
 Y.appendF Tryz.prog m 48 48 u v λa m'=>Y.storeF Tryz.prog m' 48 a (.pointer (some ⟨b,0,none⟩)) λm''=>q (AB 52 (up (up x [(26,u),(42,v),(43,a),(44, .pointer (some ⟨b,0,none⟩))]) [(3,w3),(6, .pointer (some ⟨b,0,none⟩)),(9,w9),(10,w10),(11,w11),(19,w19),(20,w20),(21,w21)])) m'':=by kernel_rfl
theorem ZU(w9 w10 w11 u v:Value)(q:AF->Mem->Option α):Y.opsF (List.drop 3 JC) Tryz.prog kp 1 (Y.cfT Tryz.prog cf) 52 JC (AB 52 (up x [(9,w9),(10,w10),(11,w11),(46,u),(48,v)])) m q=
 Y.appendF Tryz.prog m 36 36 u v λa m'=>q (AB 52 (up (up x [(46,u),(48,v),(49,a)]) [(3,a),(9,w9),(10,w10),(11,w11)])) m':=by kernel_rfl
theorem fh(w3 w6 w9 w10 w11 w19:Value)(q:Y.ExK α):Y.codeF (BK Tryz.f8 1) Tryz.prog kp 1 (Y.cfT Tryz.prog cf) L 52 k (AB 52 (up x [(3,w3),(6,w6),(9,w9),(10,w10),(11,w11),(19,w19),(20, .int .i64 (0:Nat)),(21, .int .i64 (0:Int))])) m q=
 q (.exit 2) (AB 52 (up (up x [(22, .bool false)]) [(3,w3),(6,w6),(9,w9),(10,w10),(11,w11),(19,w19),(20, .int .i64 (0:Nat)),(21, .int .i64 (0:Int))])) m:=by kernel_rfl
theorem fi(w3 w9:Value)(q:Y.ExK α):Y.codeF (BK Tryz.f8 0) Tryz.prog kp 1 (Y.cfT Tryz.prog cf) L 52 k (AB 52 (up x [(3,w3),(9,w9),(10, .int .i64 (0:Nat)),(11, .int .i64 (0:Int))])) m q=
 q (.exit 0) (AB 52 (up (up x [(12, .bool false)]) [(3,w3),(9,w9),(10, .int .i64 (0:Nat)),(11, .int .i64 (0:Int))])) m:=by kernel_rfl
end
theorem lc7:Y.loopC c7 3=BK Tryz.f8 1:=by kernel_rfl
theorem Hp.learn{M:Mem}{K:CH}{c:Nat}{x:BI}(h:Hp M K [])(hc:c<M.size)(hg:M.get c=x)(hk:K c=none):Hp M (EE K c x) []/\∀j y,K j=some y->EE K c x j=some y:=by
 obtain⟨ht,hK,F,q1,q2,q3⟩:=h
 cases q1
 refine⟨⟨ht,λj y hj=>?_,[], .nil,List.nodup_nil,λx hx=>by simp at hx⟩,λj y hj=>?_⟩
 ·by_cases e:j=c
  ·subst e;rw[BM]at hj;cases hj;exact⟨hc,hg⟩
  ·rw[C0 e]at hj;exact hK j y hj
 ·rw[C0 (by rintro rfl;rw[hk]at hj;cases hj)];exact hj
def xO(ve:Int)(ts:List A8):Bw:=⟨[],[.int .u32 ve],7,ts.length,ts.flatMap AX⟩
theorem fj(ve:Int)(ts:List A8)(t:A8):({xO ve ts with n:=(xO ve ts).n+1,c:=(xO ve ts).c++AX t}:Bw)=xO ve (ts++ [t]):=by simp[xO]
section
variable{K:CH}{M:Mem}{o:C1}{k:Nat}
theorem Oe{ts:List A8}{rest:List Value}{own:Bool}{ve:Int}{tb tc yb rb rn rc i on:Nat}{tp rp:Option Nat}{oa:Option Addr}(hn:ts.length*56<=140737488355328)(htb:K tb=some (.cells own (ts.flatMap AX++rest))):
  ∀(d j:Nat),ts.length=j+d->∀(jj:Nat) (M:Mem),d+1<=jj->Hp M K [(yb,xO ve (ts.take j))]->
  ∃M',(∀x,AD 52 [(3, .slice oa on on),(6, .pointer (some ⟨yb,0,none⟩)),(9, .slice (some ⟨rb,0,rp⟩) rn rc),(10, .int .i64 (rn:Int)),(11, .int .i64 (i:Int)),(19, .slice (some ⟨tb,0,tp⟩) ts.length tc),(20, .int .i64 (ts.length:Int)),(21, .int .i64 (ts.length:Int))] (.exit 2) M' (BT (AI Tryz.prog kp 1 (AJ Tryz.prog kp 1 o k) (AV Tryz.prog kp 1 (AJ Tryz.prog kp 1 o k) 52) 52 k (BK Tryz.f8 1)) jj (AB 52 (up x [(3, .slice oa on on),(6, .pointer (some ⟨yb,0,none⟩)),(9, .slice (some ⟨rb,0,rp⟩) rn rc),(10, .int .i64 (rn:Int)),(11, .int .i64 (i:Int)),(19, .slice (some ⟨tb,0,tp⟩) ts.length tc),(20, .int .i64 (ts.length:Int)),(21, .int .i64 (j:Int))])) M))/\Hp M' K [(yb,xO ve ts)]
 |0,j,hj,jj,M,hjj,h=>by
  obtain⟨jj,rfl⟩:∃j',jj=j'+1:=⟨jj - 1,by omega⟩;obtain rfl:j=ts.length:=by omega
  rw[List.take_length]at h;refine⟨M,λx=>AD.stop (AD.turn ?_) (by simp),h⟩;refine AD.via (BW [8,9] Tryz.prog kp 1 _ (Y.lpOf Tryz.prog kp 1 (AJ Tryz.prog kp 1 o k) 52) (λ_ _ _ _ _ _ _=>rfl) 52 k (BK Tryz.f8 1) (by kernel_rfl) _ M _) ?_;refine AD.via (ZV ..) ?_;rw[Gh (by omega),BH];exact AD.here _
 |d+1,j,hj,jj,M,hjj,h=>by
  obtain⟨jj,rfl⟩:∃j',jj=j'+1:=⟨jj - 1,by omega⟩;have hlt:j<ts.length:=by omega
  obtain⟨t,ht⟩:∃t,ts[j]?=some t:=⟨_,List.getElem?_eq_getElem hlt⟩;have htk:ts.take (j+1)=ts.take j++ [t]:=by rw[List.take_add_one,ht];rfl
  have gb:=h.get htb;obtain⟨M1,hM1⟩:∃M1,(M.push (.cells true [(.bool false),(.int .i64 (0:Int)),(.int .i64 (0:Int)),(.int .i64 (0:Int)),(.int .u64 (0:Int)),(.int .u64 (0:Int)),(.int .u64 (0:Int))])).set M.size (.cells true (AX t))=M1:=⟨_,rfl⟩;have x1:Ext M M1:=hM1▸Ext.fresh;have gz:M1.get M.size= .cells true (AX t):=by rw[←hM1];exact Mem.get_set_same _ _ _
  have hst:Bx Tryz.prog (M.push (.cells true [(.bool false),(.int .i64 (0:Int)),(.int .i64 (0:Int)),(.int .i64 (0:Int)),(.int .u64 (0:Int)),(.int .u64 (0:Int)),(.int .u64 (0:Int))])) 57 (.agg ⟨AX t⟩) (.pointer (some ⟨M.size,0,none⟩))=some M1:=by
   rw[Ce (n:=7) vC rfl (Mem.get_push_same _ _) (by simp) rfl,←hM1];rfl
  have x2:Ext M (M1.push (.cells true (AX t))):=x1.trans (Ext.push _ _);have hlj:(ts.take j).length=j:=by rw[List.length_take];omega
  obtain⟨a,gm,happ⟩:=h.append rW uz lq (show(7:Nat)≠0 by decide) vA (by decide) vB (by show((ts.take j).length+1)*56<=_/\(ts.take j).length+1<=_;omega);obtain⟨a',M7,M8,p1,p2,h8,_,_⟩:=happ _ M1.size true (AX t) x2 (Mem.get_push_same _ _) rfl rfl;rw[fj,←htk]at h8;have gy:M1.get yb= .cells true [.slice a (ts.take j).length (ts.take j).length, .int .u32 ve]:=(x1.get yb h.set.1).trans gm;obtain⟨M3,h3,h4⟩:=Oe (rb:=rb) (rn:=rn) (rc:=rc) (i:=i) (on:=on) (tp:=tp) (rp:=rp) (oa:=oa) (tc:=tc) hn htb d (j+1) (by omega) jj M8 (by omega) h8;refine⟨M3,λx=>AD.next (AD.turn ?_) h3,h4⟩;refine AD.via (BW [8,9] Tryz.prog kp 1 _ (Y.lpOf Tryz.prog kp 1 (AJ Tryz.prog kp 1 o k) 52) (λ_ _ _ _ _ _ _=>rfl) 52 k (BK Tryz.f8 1) (by kernel_rfl) _ M _) ?_;refine AD.via (ZV ..) ?_;rw[ET hlt,AH];refine AD.via (BG _ _ _ (by kernel_rfl) _ _ _ _) ?_;refine AD.via (fa ..) ?_;refine AD.via (By 3 ..) ?_;refine AD.via (m5 ..) ?_;rw[EH,Fg hlt,AH,gb,AR,Cs D0 hlt,AH,Cf D0 ht];refine AD.via (ff ..) ?_;rw[Y.storeF_eq,hst,Y.ob_some];refine AD.via (m6 ..) ?_;refine AD.via (BG _ _ _ (by kernel_rfl) _ _ _ _) ?_;refine AD.via (fb ..) ?_;refine AD.via (By 17 ..) ?_;refine AD.via (m7 ..) ?_;rw[gy,AR,show Y.nthL [Value.slice a (ts.take j).length (ts.take j).length, .int .u32 ve] 0=some (.slice a (ts.take j).length (ts.take j).length)from rfl,BN,Dk];simp only[gz,AR,tn0,TG,TH,TI,TJ,TK,TL,BN,BF,HS,CN,AH];refine AD.via (By 1 ..) ?_;refine AD.via (fk ..) ?_;rw[show List.drop 1 (List.drop 17 OM)=List.drop 18 OM by rw[List.drop_drop]];refine AD.via (fg ..) ?_;rw[Y.appendF_eq,show Bi Tryz.prog (M1.push (.cells true [.bool t.neg, .int .i64 t.kind, .int .i64 t.pos, .int .i64 t.size, .int .u64 t.mask, .int .u64 t.lo, .int .u64 t.hi])) 48 48 (.slice a (ts.take j).length (ts.take j).length) (.slice (some ⟨M1.size,0,none⟩) 1 1)=_ from p1,Kl,Y.storeF_eq,show Bx Tryz.prog M7 48 _ (.pointer (some ⟨yb,0,none⟩))=_ from p2,Y.ob_some];refine AD.via (m8 ..) ?_;rw[JR (by omega)];exact AD.here _
theorem ZW{ts:List A8}{v:Value}{ve:Int}{yb rb rn rc i on:Nat}{rp:Option Nat}{oa:Option Addr}(hk:ts.length+2<=k)(hn:ts.length*56<=140737488355328)(hv:CX K v ts)(h:Hp M K [(yb,xO ve [])]):
  ∃ta tc M',v= .slice ta ts.length tc/\(∀x,AD 52 [(3, .slice oa on on),(6, .pointer (some ⟨yb,0,none⟩)),(9, .slice (some ⟨rb,0,rp⟩) rn rc),(10, .int .i64 (rn:Int)),(11, .int .i64 (i:Int)),(19, .slice ta ts.length tc),(20, .int .i64 (ts.length:Int)),(21, .int .i64 (ts.length:Int))] (.exit 2) M' (BT (AI Tryz.prog kp 1 (AJ Tryz.prog kp 1 o k) (AV Tryz.prog kp 1 (AJ Tryz.prog kp 1 o k) 52) 52 k (BK Tryz.f8 1)) k (AB 52 (up x [(3, .slice oa on on),(6, .pointer (some ⟨yb,0,none⟩)),(9, .slice (some ⟨rb,0,rp⟩) rn rc),(10, .int .i64 (rn:Int)),(11, .int .i64 (i:Int)),(19, .slice ta ts.length tc),(20, .int .i64 (ts.length:Int)),(21, .int .i64 (0:Int))])) M))/\Hp M' K [(yb,xO ve ts)]:=by
 obtain⟨ta,tc,rfl,hv⟩:=hv
 by_cases e:ts= []
 ·subst e;obtain⟨k,rfl⟩:∃k',k=k'+1:=⟨k - 1,by omega⟩;exact⟨ta,tc,M,rfl,λx=>AD.stop (AD.turn (AD.via (fh ..) (AD.here _))) (by simp),h⟩
 ·obtain⟨tb,tp,own,rest,rfl,htb⟩:=hv e;obtain⟨M',h1,h2⟩:=Oe (o:=o) (rb:=rb) (rn:=rn) (rc:=rc) (i:=i) (on:=on) (tp:=tp) (rp:=rp) (oa:=oa) (tc:=tc) hn htb ts.length 0 (by omega) k M (by omega) h;exact⟨_,tc,M',rfl,h1,h2⟩
def Qy(M:Mem)(K:CH)(vr:List (Value×BA))(oa:Option Addr):Prop:=(vr= []/\oa=none)\/∃c,oa=some ⟨c,0,some 2⟩/\c<M.size/\K c=none/\M.get c= .cells true (vr.flatMap BX)
def Hq(v:Value):Prop:=∃a n c,v= .slice a n c
theorem Fu:∀{vr:List (Value×BA)},(∀x∈vr,Hq x.1)->(vr.flatMap BX).all one=true
 | [],_=>rfl
 |x::vr,h=>by
  obtain⟨v,r⟩:=x;obtain⟨a,n,c,rfl⟩:=h (v,r) (List.mem_cons_self ..);show(BX (.slice a n c,r)++vr.flatMap BX).all one=true;rw[List.all_append,Fu λx hx=>h x (List.mem_cons_of_mem _ hx)];rfl
theorem ZX{M2:Mem}{vr:List (Value×BA)}{oa:Option Addr}{nb:Nat}{own:Bool}{x:Value×BA}(hs:∀y∈vr,Hq y.1)(hx1:Hq x.1)(ho:Qy M2 K vr oa)(hn:M2.get nb= .cells own (BX x))(hl:vr.length*32+32<=140737488355328)(h:Hp M2 K []):
  ∃oa' M3,Bi Tryz.prog M2 36 36 (.slice oa vr.length vr.length) (.slice (some ⟨nb,0,none⟩) 1 1)=some (.slice oa' (vr.length+1) (vr.length+1),M3)/\Hp M3 K []/\Qy M3 K (vr++ [x]) oa':=by
 have hf:Ca M2 2 1 (.slice (some ⟨nb,0,none⟩) 1 1)=some (BX x):=FY (rest:= []) (by rw[List.append_nil];exact hn) rfl
 have h1:(BX x).all one=true:=by
  have:=Fu (vr:= [x]) λy hy=>by obtain rfl:=List.mem_singleton.1 hy;exact hx1
  simpa using this
 rcases ho with⟨rfl,rfl⟩|⟨c,rfl,h2,h3,h4⟩
 ·refine⟨_,_,append_nil kg Ye (by decide) rX (by decide) rY (n:=1) rfl (by decide) (by decide) hf rfl h1,h.ext (Ext.push _ _), .inr ⟨_,rfl,?_,h.no (Nat.le_refl _),?_⟩⟩
  ·show M2.size<M2.size+1;omega
  ·rw[Mem.get_push_same];simp
 ·refine⟨_,_,JP kg Ye (by decide) rX (by decide) rY h4 (Dd Bo vr) (Fu hs) (n:=1) rfl (by decide) (by omega) hf rfl h1,?_, .inr ⟨_,rfl,?_,h.no (Nat.le_refl _),?_⟩⟩
  ·exact(h.ext (Ext.push _ _)).free_set (by show c<M2.size+1;omega) h3
  ·show M2.size<M2.size+1;omega
  ·rw[Mem.get_set_ne _ (by omega),Mem.get_push_same,List.flatMap_append];simp
def VH(K:CH)(c:Nat):CH:=λj=>if j=c then none else K j
theorem ZY{K:CH}{c:Nat}:∀j x,VH K c j=some x->K j=some x:=by
 intro j x h
 unfold VH at h
 split at h
 ·cases h
 ·exact h
theorem Qz{K:CH}{c j:Nat}(h:j≠c):VH K c j=K j:=if_neg h
theorem CX.slice{v:Value}{ts:List A8}(h:CX K v ts):Hq v:=by
 obtain⟨a,c,rfl,_⟩:=h
 exact⟨_,_,_,rfl⟩
theorem ZZ{r:BA}{v:Value}{rest:List Value}{sr vr:List (Value×BA)}{own:Bool}{rb rc i:Nat}{rp:Option Nat}{oa:Option Addr}(hk:r.tests.length+80<=k)(hn:r.tests.length*56<=140737488355328)(hi32:i*32+32<=140737488355328)
  (hrb:K rb=some (.cells own (sr.flatMap BX++rest))) (hi:sr[i]?=some (v,r)) (hv:CX K v r.tests) (hs:∀y∈vr,Hq y.1) (hvl:vr.length=i) (h:Hp M K []) (ho:Qy M K vr oa):
  ∃K' M' oa' v',(∀x,AD 52 [(3, .slice oa' (i+1) (i+1)),(9, .slice (some ⟨rb,0,rp⟩) sr.length rc),(10, .int .i64 (sr.length:Int)),(11, .int .i64 ((i+1:Nat):Int))] .normal M' (AI Tryz.prog kp 1 (AJ Tryz.prog kp 1 o k) (AV Tryz.prog kp 1 (AJ Tryz.prog kp 1 o k) 52) 52 k (BK Tryz.f8 0) (AB 52 (up x [(3, .slice oa i i),(9, .slice (some ⟨rb,0,rp⟩) sr.length rc),(10, .int .i64 (sr.length:Int)),(11, .int .i64 (i:Int))])) M))/\
   (∀j x,K j=some x->K' j=some x)/\Hp M' K' []/\Qy M' K' (vr++ [(v',r)]) oa'/\CX K' v' r.tests:=by
 have hlt:i<sr.length:=(List.getElem?_eq_some_iff.1 hi).1
 have gb:=h.get hrb
 have hvs:=hv.slice
 obtain⟨K1,hK1,hw1,hback⟩:∃K1,Hp M K1 []/\(∀j x,K j=some x->K1 j=some x)/\((vr= []/\oa=none/\K1=K)\/∃c,oa=some ⟨c,0,some 2⟩/\K c=none/\K1=EE K c (.cells true (vr.flatMap BX))):=by
  rcases ho with⟨q1,q2⟩|⟨c,q1,q2,q3,q4⟩
  ·exact⟨K,h,λ_ _ h=>h, .inl ⟨q1,q2,rfl⟩⟩
  ·have:=Hp.learn h q2 q4 q3;exact⟨_,this.1,this.2, .inr ⟨c,q1,q3,rfl⟩⟩
 obtain⟨M1,hM1⟩:∃M1,(M.push (.cells true [(.slice none 0 0),(.int Go.IntKind.u32 (0:Int))])).set M.size (.cells true (BX (v,r)))=M1:=⟨_,rfl⟩
 have gx:M1.get M.size= .cells true (BX (v,r)):=by rw[←hM1];exact Mem.get_set_same _ _ _
 have s1:M1.size=M.size+1:=by rw[←hM1];rfl
 have h1:Hp M1 K1 []:=hK1.ext (hM1▸Ext.fresh)
 have hst:Bx Tryz.prog (M.push (.cells true [(.slice none 0 0),(.int Go.IntKind.u32 (0:Int))])) 55 (.agg ⟨BX (v,r)⟩) (.pointer (some ⟨M.size,0,none⟩))=some M1:=by
  obtain⟨ta,n,tc,rfl⟩:=hvs;rw[Ce (n:=2) Yb rfl (Mem.get_push_same _ _) (by simp) rfl,←hM1];rfl
 have hx0:=h1.push [] [.int .u32 (0:Int)] 7
 obtain⟨_,_,_,⟨u,rfl⟩,gx0,hx1⟩:=hx0.set
 have hx1:=hx1 [] [.int .u32 r.verdict]
 obtain⟨M2,hM2⟩:∃M2,(M1.push (.cells true [(.slice none 0 0),(.int Go.IntKind.u32 (0:Int))])).set M1.size (.cells true [.slice none 0 0, .int .u32 r.verdict])=M2:=⟨_,rfl⟩
 have hu:u=none:=by
  have:(M1.push (.cells true ([]++Value.slice none 0 0:: [.int .u32 (0:Int)]))).get M1.size= .cells true ([]++Value.slice none 0 0:: [.int .u32 (0:Int)]):=Mem.get_push_same _ _;rw[this]at gx0;simp at gx0;exact gx0.symm
 subst hu
 have h2:Hp M2 K1 [(M1.size,xO r.verdict [])]:=hM2▸hx1
 have hst2:Bx Tryz.prog (M1.push (.cells true [(.slice none 0 0),(.int Go.IntKind.u32 (0:Int))])) 50 (.agg ⟨[.slice none 0 0, .int .u32 r.verdict]⟩) (.pointer (some ⟨M1.size,0,none⟩))=some M2:=by
  rw[Ce (n:=2) Ye rfl (Mem.get_push_same _ _) (by simp) rfl,←hM2];rfl
 have gx2:M2.get M.size= .cells true (BX (v,r)):=by
  rw[←hM2,Mem.get_set_ne _ (by omega),Mem.get_push_ne _ (by omega)];exact gx
 obtain⟨ta,tc,M3,hve,hloop,h3⟩:=ZW (o:=o) (k:=k) (yb:=M1.size) (rb:=rb) (rn:=sr.length) (rc:=rc) (i:=i) (on:=i) (rp:=rp) (oa:=oa) (by omega) (by omega) (hv.mono hw1) h2
 obtain⟨K2,a,hw2,hK2y,hbuf,hyn,h4⟩:=h3.freeze
 have gy:M3.get M1.size= .cells true [.slice a r.tests.length r.tests.length, .int .u32 r.verdict]:=h4.get hK2y
 have h5:=h4.ext (Ext.push M3 (.cells true (BX (.slice a r.tests.length r.tests.length,r))))
 have hsx:Hq (Value.slice a r.tests.length r.tests.length):=⟨_,_,_,rfl⟩
 obtain⟨K3,hK3,hw3,ho3,ht3⟩:∃K3,Hp (M3.push (.cells true (BX (.slice a r.tests.length r.tests.length,r)))) K3 []/\(∀j x,K j=some x->K3 j=some x)/\Qy (M3.push (.cells true (BX (.slice a r.tests.length r.tests.length,r)))) K3 vr oa/\CX K3 (.slice a r.tests.length r.tests.length) r.tests:=by
  rcases hback with⟨q1,q2,rfl⟩|⟨c,q1,q2,rfl⟩
  ·refine⟨K2,h5,hw2, .inl ⟨q1,q2⟩,a,_,rfl,λh0=>?_⟩;obtain⟨c',e1,e2,_⟩:=hbuf (List.length_pos_iff.2 h0);exact⟨c',some 7,true,[],e1,by rw[e2,List.append_nil];rfl⟩
  ·have hc2:=hw2 c _ (BM ..);refine⟨VH K2 c,h5.weak ZY,λj x hj=>?_, .inr ⟨c,q1,h5.lt hc2,if_pos rfl,h5.get hc2⟩,a,_,rfl,λh0=>?_⟩
   ·have hne:j≠c:=by rintro rfl;rw[q2]at hj;cases hj
    rw[Qz hne];exact hw2 j x (by rw[C0 hne];exact hj)
   ·obtain⟨c',e1,e2,e3⟩:=hbuf (List.length_pos_iff.2 h0);have hne:c'≠c:=by rintro rfl;rw[BM]at e3;cases e3
    exact⟨c',some 7,true,[],e1,by rw[Qz hne,e2,List.append_nil];rfl⟩
 obtain⟨oa',M4,hap,h6,ho6⟩:=ZX hs hsx ho3 (nb:=M3.size) (own:=true) (x:=(.slice a r.tests.length r.tests.length,r)) (Mem.get_push_same _ _) (by omega) hK3
 rw[hvl]at hap
 refine⟨K3,M4,oa', .slice a r.tests.length r.tests.length,λx=>AD.turn ?_,hw3,h6,ho6,ht3⟩
 refine AD.via (BW [4,5,6,11] Tryz.prog kp 1 _ (Y.lpOf Tryz.prog kp 1 (AJ Tryz.prog kp 1 o k) 52) (λ_ _ _ _ _ _ _=>rfl) 52 k (BK Tryz.f8 0) (by kernel_rfl) _ M _) ?_
 refine AD.via (Z0 ..) ?_
 rw[ET hlt,AH]
 refine AD.via (BG _ _ _ (by kernel_rfl) _ _ _ _) ?_
 refine AD.via (fW ..) ?_
 refine AD.via (By 3 ..) ?_
 refine AD.via (m9 ..) ?_
 rw[EH,Fg hlt,AH,gb,AR,Cs Bo hlt,AH,Cf Bo hi]
 refine AD.via (fc ..) ?_
 rw[Y.storeF_eq,hst,Y.ob_some]
 refine AD.via (mb ..) ?_
 refine AD.via (BG _ _ _ (by kernel_rfl) _ _ _ _) ?_
 refine AD.via (fX ..) ?_
 refine AD.via (By 4 ..) ?_
 refine AD.via (mc ..) ?_
 rw[gx,AR,show Y.nthL (BX (v,r)) 1=some (.int .u32 r.verdict)from rfl,BN,BF,CN,AH]
 refine AD.via (fe ..) ?_
 rw[Y.storeF_eq,hst2,Y.ob_some]
 refine AD.via (me ..) ?_
 refine AD.via (BG _ _ _ (by kernel_rfl) _ _ _ _) ?_
 refine AD.via (fY ..) ?_
 refine AD.via (mf ..) ?_
 rw[gx2,AR,show Y.nthL (BX (v,r)) 0=some v from rfl,BN,hve,Dk]
 refine AD.via (mg ..) ?_
 refine AD.via (E5 _ _ (by kernel_rfl) _ _ _ _) ?_
 rw[Y.lpOf_eq,lc7]
 simp only[Int.ofNat_eq_natCast]
 refine AD.loop (hloop _) λx'=>?_
 refine AD.via (mh ..) ?_
 refine AD.via (BG _ _ _ (by kernel_rfl) _ _ _ _) ?_
 refine AD.via (ZS ..) ?_
 refine AD.via (By 2 ..) ?_
 refine AD.via (fm ..) ?_
 rw[gy,AR,show Nat.ble 2 (Y.lenLF [Value.slice a r.tests.length r.tests.length, .int .u32 r.verdict])=true from rfl,AH,show Y.subL [Value.slice a r.tests.length r.tests.length, .int .u32 r.verdict] 0 2= [Value.slice a r.tests.length r.tests.length, .int .u32 r.verdict]from rfl]
 refine AD.via (By 1 ..) ?_
 refine AD.via (Z1 ..) ?_
 rw[show List.drop 1 (List.drop 2 JC)=List.drop 3 JC by rw[List.drop_drop]]
 refine AD.via (ZU ..) ?_
 rw[Y.appendF_eq,show Bi Tryz.prog (M3.push (.cells true [.slice a r.tests.length r.tests.length, .int .u32 r.verdict])) 36 36 (.slice oa i i) (.slice (some ⟨M3.size,0,none⟩) 1 1)=_ from hap,Kl]
 refine AD.via (mi ..) ?_
 rw[JR (by omega)]
 exact AD.here _
theorem RA{rest:List Value}{sr:List (Value×BA)}{own:Bool}{rb rc:Nat}{rp:Option Nat}(hk:∀x∈sr,x.2.tests.length+80<=k)(hsr:sr.length*32<=140737488355328)(hn:∀x∈sr,x.2.tests.length*56<=140737488355328):
  ∀(d i:Nat),sr.length=i+d->∀(jj:Nat) (K:CH) (M:Mem) (vr:List (Value×BA)) (oa:Option Addr),d+1<=jj->K rb=some (.cells own (sr.flatMap BX++rest))->(∀x∈sr,CX K x.1 x.2.tests)->(∀x∈vr,CX K x.1 x.2.tests)->vr.map (·.2)=(sr.take i).map (·.2)->Hp M K []->Qy M K vr oa->
  ∃K' M' oa' vr',(∀x,AD 52 [(3, .slice oa' sr.length sr.length),(9, .slice (some ⟨rb,0,rp⟩) sr.length rc),(10, .int .i64 (sr.length:Int)),(11, .int .i64 (sr.length:Int))] (.exit 0) M' (BT (AI Tryz.prog kp 1 (AJ Tryz.prog kp 1 o k) (AV Tryz.prog kp 1 (AJ Tryz.prog kp 1 o k) 52) 52 k (BK Tryz.f8 0)) jj (AB 52 (up x [(3, .slice oa i i),(9, .slice (some ⟨rb,0,rp⟩) sr.length rc),(10, .int .i64 (sr.length:Int)),(11, .int .i64 (i:Int))])) M))/\(∀j x,K j=some x->K' j=some x)/\Hp M' K' []/\Qy M' K' vr' oa'/\(∀x∈vr',CX K' x.1 x.2.tests)/\vr'.map (·.2)=sr.map (·.2)
 |0,i,hi,jj,K,M,vr,oa,hjj,hrb,hv,hvr,hm,h,ho=>by
  obtain⟨jj,rfl⟩:∃j',jj=j'+1:=⟨jj - 1,by omega⟩;obtain rfl:i=sr.length:=by omega
  refine⟨K,M,oa,vr,λx=>AD.stop (AD.turn ?_) (by simp),λ_ _ h=>h,h,ho,hvr,by rw[hm,List.take_length]⟩;refine AD.via (BW [4,5,6,11] Tryz.prog kp 1 _ (Y.lpOf Tryz.prog kp 1 (AJ Tryz.prog kp 1 o k) 52) (λ_ _ _ _ _ _ _=>rfl) 52 k (BK Tryz.f8 0) (by kernel_rfl) _ M _) ?_;refine AD.via (Z0 ..) ?_;rw[Gh (by omega),BH];exact AD.here _
 |d+1,i,hi,jj,K,M,vr,oa,hjj,hrb,hv,hvr,hm,h,ho=>by
  obtain⟨jj,rfl⟩:∃j',jj=j'+1:=⟨jj - 1,by omega⟩;have hlt:i<sr.length:=by omega
  obtain⟨p,hp⟩:∃p,sr[i]?=some p:=⟨_,List.getElem?_eq_getElem hlt⟩;obtain⟨v,r⟩:=p;have hpm:(v,r)∈sr:=List.mem_of_getElem? hp
  have hvl:vr.length=i:=by
   have:=congrArg List.length hm;rw[List.length_map,List.length_map,List.length_take]at this;omega
  obtain⟨K1,M1,oa1,v1,h1,hw1,hp1,ho1,ht1⟩:=ZZ (o:=o) (k:=k) (rc:=rc) (rp:=rp) (hk _ hpm) (hn _ hpm) (by omega) hrb hp (hv _ hpm) (λy hy=>(hvr y hy).slice) hvl h ho
  obtain⟨K2,M2,oa2,vr2,h2,hw2,hp2,ho2,ht2,hm2⟩:=RA (rc:=rc) (rp:=rp) hk hsr hn d (i+1) (by omega) jj K1 M1 (vr++ [(v1,r)]) oa1 (by omega) (hw1 _ _ hrb) (λx hx=>(hv x hx).mono hw1) (λx hx=>by
   rcases List.mem_append.1 hx with hx|hx
   ·exact(hvr x hx).mono hw1
   ·obtain rfl:=List.mem_singleton.1 hx;exact ht1) (by rw[List.map_append,hm,List.take_add_one,hp,Option.toList_some,List.map_append];rfl) hp1 ho1
  exact⟨K2,M2,oa2,vr2,λx=>AD.next (h1 x) h2,λj x hj=>hw2 j x (hw1 j x hj),hp2,ho2,ht2,hm2⟩
theorem fo{rs:List BA}{v:Value}(hO:Gu o)(hk:rs.length+100<=k)(hkt:∀r∈rs,r.tests.length+100<=k)(hl:rs.length*32<=140737488355328)(hn:∀r∈rs,r.tests.length*56<=140737488355328)(hv:CT K v rs)(h:Hp M K []):
  ∃K' v' M',AJ Tryz.prog kp 1 o k 8 [v] M=some (v',M')/\(∀j x,K j=some x->K' j=some x)/\Hp M' K' []/\CT K' v' rs:=by
 obtain⟨k,rfl⟩:∃k',k=k'+1:=⟨k - 1,by omega⟩
 obtain⟨ra,rc,rfl,hv⟩:=hv
 obtain⟨K1,M1,oa,vr,hloop,hw1,h1,ho1,ht1,hm1⟩:∃K' M' oa' vr',(∀x,AD 52 [(3, .slice oa' rs.length rs.length),(9, .slice ra rs.length rc),(10, .int .i64 (rs.length:Int)),(11, .int .i64 (rs.length:Int))] (.exit 0) M' (BT (AI Tryz.prog kp 1 (AJ Tryz.prog kp 1 o k) (AV Tryz.prog kp 1 (AJ Tryz.prog kp 1 o k) 52) 52 k (BK Tryz.f8 0)) k (AB 52 (up x [(3, .slice none 0 0),(9, .slice ra rs.length rc),(10, .int .i64 (rs.length:Int)),(11, .int .i64 (0:Int))])) M))/\(∀j x,K j=some x->K' j=some x)/\Hp M' K' []/\Qy M' K' vr' oa'/\(∀x∈vr',CX K' x.1 x.2.tests)/\vr'.map (·.2)=rs:=by
  by_cases e:rs= []
  ·subst e;obtain⟨k,rfl⟩:∃k',k=k'+1:=⟨k - 1,by omega⟩;exact⟨K,M,none,[],λx=>AD.stop (AD.turn (AD.via (fi ..) (AD.here _))) (by simp),λ_ _ h=>h,h, .inl ⟨rfl,rfl⟩,λx hx=>by simp at hx,rfl⟩
  ·obtain⟨rb,rp,own,rest,sr,rfl,hrs,hrb,hvt⟩:=hv e;have hl2:rs.length=sr.length:=by rw[←hrs,List.length_map]
   obtain⟨K',M',oa',vr',q1,q2,q3,q4,q5,q6⟩:=RA (o:=o) (k:=k) (rc:=rc) (rp:=rp) (λx hx=>by have:=hkt _ (by rw[←hrs];exact List.mem_map.2 ⟨x,hx,rfl⟩);omega) (by omega) (λx hx=>hn _ (by rw[←hrs];exact List.mem_map.2 ⟨x,hx,rfl⟩)) sr.length 0 (by omega) k K M [] none (by omega) hrb hvt (λx hx=>by simp at hx) (by simp) h (.inl ⟨rfl,rfl⟩);rw[hl2];exact⟨K',M',oa',vr',q1,q2,q3,q4,q5,q6.trans hrs⟩
 have hvl:vr.length=rs.length:=by rw[←hm1,List.length_map]
 have hrun:AJ Tryz.prog kp 1 o (k+1) 8 [.slice ra rs.length rc] M=some (.slice oa rs.length rs.length,M1):=by
  refine CJ 52 (hO.off 8 (by decide) _ _) at7 bd7 n7 ?_ rV;refine Eq.trans (Z2 ..) ?_;rw[Y.lpOf_eq,Y.loopC_body];simp only[Int.ofNat_eq_natCast];refine Hr (hloop _) λx'=>?_;exact XT ..
 rcases ho1 with⟨q1,q2⟩|⟨c,q1,q2,q3,q4⟩
 ·have e:rs= []:=by rw[←hm1,q1];rfl
  exact⟨K1,_,M1,hrun,hw1,h1,oa,_,rfl,λhne=>absurd e hne⟩
 ·have hlearn:=Hp.learn h1 q2 q4 q3;refine⟨EE K1 c (.cells true (vr.flatMap BX)),_,M1,hrun,λj x hj=>hlearn.2 _ _ (hw1 j x hj),hlearn.1,oa,_,rfl,λhne=>⟨c,some 2,true,[],vr,q1,hm1,by rw[BM,List.append_nil],λx hx=>(ht1 x hx).mono hlearn.2⟩⟩
end
end
end Go.Proofs.YtgjflcgmieiafaaGreatDoor
namespace Go.Proofs.YtgjflcgmieiafaaGreatDoor
open Go Go.DI Go.DI.Kit Go.Proofs Go.Cmp Go.RowKit
noncomputable section
abbrev Pl(l:List B9):={p:Nat // p∈A5 l}
def S2(l:List B9)(x:Pl l):Array Value:= #[.int .i64 (x.1:Int)]
def tB(B0:Nat)(ι:Ren)(l:List B9)(A B:World):Prop:=Rel B0 1 ι (Hn (AE l) l.length) A->Rel B0 1 ι (Hn (AE l) l.length) B
theorem jD{l:List B9}(hS:DY l){p:Nat}{x:B9}(hp:p∈A5 l)(hx:l[p]?=some x):(RH x=1/\S7 x 1)\/(RH x=2/\S7 x 2):=by
 rcases hS.found p hp with⟨y,hy,h1⟩|⟨y,o,q,hq,hy,h1,_,_,_⟩|⟨n,h1,h2⟩
 ·rw[hx]at h1;cases h1;left;cases hy with
  |movI hd=>exact⟨rfl,(Vr hd).pl⟩
  |andI hd=>exact⟨rfl,(Vs hd).pl⟩
  |movR hd hs=>exact⟨rfl,(Vt hd hs).pl⟩
  |andR hd hs=>exact⟨rfl,(Vu hd hs).pl⟩
  |low=>exact⟨rfl,bF.pl⟩
  |exit=>exact⟨rfl,Vv.pl⟩
  |load hz hd hs=>
   rcases hz with rfl|rfl|rfl|rfl
   ·exact⟨rfl,(SR hd hs).pl⟩
   ·exact⟨rfl,(SS hd hs).pl⟩
   ·exact⟨rfl,(SU hd hs).pl⟩
   ·exact⟨rfl,(SV hd hs).pl⟩
  |swap hz hz1=>
   rcases hz with rfl|rfl|rfl|rfl
   ·omega
   ·exact⟨rfl,SW.pl⟩
   ·exact⟨rfl,SX.pl⟩
   ·exact⟨rfl,SY.pl⟩
 ·rw[hx]at h1;cases h1;left;cases hy with
  |jif ho hd=>
   rcases ho with rfl|rfl|rfl|rfl
   ·exact⟨rfl,(Vw hd).pl⟩
   ·exact⟨rfl,(Vx hd).pl⟩
   ·exact⟨rfl,(SZ hd).pl⟩
   ·exact⟨rfl,(Vy hd).pl⟩
  |jifR ho=>
   rcases ho with rfl|rfl
   ·exact⟨rfl,PQ.pl⟩
   ·exact⟨rfl,S0.pl⟩
  |goto=>exact⟨rfl,Vz.pl⟩
 ·rw[hx]at h1;cases h1;exact .inr ⟨rfl,Nu.2.1⟩
theorem jE(L:List Value)(n:Nat):∀b,((Hn L n).get b).own=false:=by
 intro b
 have e:(Hn L n).get b=if b<1 then(mG gl).get b else(match [BI.cells false L,BI.cells false [A6 1 n]][b - 1]? with|some x=>x|none=>(mG gl).get b):=CM _ (mG gl) b
 have hG:∀b,((mG gl).get b).own=false:=λb=>by
  by_cases h:b=0
  ·subst h;rw[mG_get];rfl
  ·rw[mG_top gl b (by rw[mG_size];omega)];rfl
 rw[e]
 by_cases h:b<1
 ·rw[if_pos h];exact hG b
 ·rw[if_neg h];rcases hb:b - 1 with _|_|j
  ·rfl
  ·rfl
  ·exact hG b
theorem IX{B0:Nat}{ι:Ren}{L:List Value}{n:Nat}{x:List Value}{lt:Bool}{pl:Int}{c:Code}{d lp:Nat}{kn:List (Nat×Value)}{y:Nat->Value}{p:Int}{u:Value}{qs:List Prop}{W:World}{a:Act}{dd:Nat}
  (h:Rn (sy x lt pl c d (AB 20 (up y kn)) (Hn L n)) ((.normal,yV lp,BP 2 0, .int .i64 p,u,Hn L n),qs)) (hq:∀q∈qs,q)
  (hr:Rel B0 1 ι (Hn L n) W) (ht:Be ι 20 (AB 20 (up y kn)) a) {Q:Exit->Act->World->Prop}
  (hQ:∀a' W' t',Be ι 20 t' a'->t'.at 0=yV lp->t'.at 1=BP 2 0->t'.at 3= .int .i64 p->t'.at d=u->a'.defers=a.defers->Rel B0 1 ι (Hn L n) W'->W.grownBy W' none->Q .normal a' W'):c.wpIn Fence.wide dd Tryz.prog Q a W:=by
 obtain⟨e,t',m',a1,a2⟩:=H.codeO_H (H:=hI x lt pl) (o:=Q4) (P:=Tryz.prog) (K:=kp) (G:=1) (j:=20) (n:=20) (k:=20) (c:=c) (t:=AB 20 (up y kn)) (m:=Hn L n) (g:=λe t m=>(e,t.at 0,t.at 1,t.at 3,t.at d,m)) su pE h.1 h.2 hq
 have e1:e=_:=congrArg (λx=>x.1) a2
 have e2:t'.at 0=_:=congrArg (λx=>x.2.1) a2
 have e3:t'.at 1=_:=congrArg (λx=>x.2.2.1) a2
 have e4:t'.at 3=_:=congrArg (λx=>x.2.2.2.1) a2
 have e5:t'.at d=_:=congrArg (λx=>x.2.2.2.2.1) a2
 have e6:m'=_:=congrArg (λx=>x.2.2.2.2.2) a2
 simp only at e1 e2 e3 e4 e5 e6
 rw[e1,e6]at a1
 refine wpIn_wide.2 (KK hK (bj B0) (LF Bu hK (bj B0) jB) c _ _ _ _ _ a1 ι W a Q hr ht (λb h1 h2=>absurd h2 (Nat.not_lt.2 h1)) λa' W' ha=>?_)
 obtain⟨ι',g1,g2,g3,g4⟩:=ha
 obtain rfl:=aR g3
 exact hQ a' W' t' g1 e2 e3 e4 e5 g4 g2 (aQ (P:=Tryz.prog) g3 (jE L n))
def tC(n:Nat)(a:Act):Nat:=match a.tmps.getD 3 undef with| .int _ z=>n - z.toNat|_=>0
theorem bl{n:Nat}{a:Act}{k:IntKind}{p:Nat}(h:a.tmps.getD 3 undef= .int k (p:Int)):tC n a=n - p:=by unfold tC;rw[h];simp
def jF:Oper:={dst:=some 8,op:= .move (.tmp 0),type:=185,pos:= "shape.go:25",after:= #[],guard:=none}
def tE:Oper:={dst:=some 9,op:= .move (.tmp 3),type:=3,pos:= "shape.go:25",after:= #[],guard:=none}
def pI:Oper:={dst:=some 10,op:= .call {callee:= .value (.tmp 8),args:= #[.tmp 9],argTypes:= #[3]},type:=4,pos:= "shape.go:25",after:= #[{on:=0,ground:= .data},{on:=1,ground:= .data}],guard:=none}
def pJ:Oper:={dst:=some 11,op:= .unOp .not 4 (.tmp 10),type:=4,pos:= "shape.go:25",after:= #[{on:=2,ground:= .data}],guard:=none}
theorem tF:jC 2= #[jF,tE,pI,pJ]:=by kernel_rfl
theorem S8{l:List B9}{k p:Nat}(hk:l.length<=p+k)(hp:p<l.length):∃k' x,k=k'+1/\l[p]?=some x/\Bn l k p=p::Bn l k' (p+RH x):=by
 obtain⟨k',rfl⟩:∃k',k=k'+1:=⟨k - 1,by omega⟩
 obtain⟨x,hx⟩:∃x,l[p]?=some x:=⟨_,List.getElem?_eq_getElem hp⟩
 exact⟨k',x,rfl,hx,by simp only[Bn,hx]⟩
theorem UQ{l:List B9}{k p:Nat}(hp:l.length<=p):Bn l k p= []:=by
 cases k with
 |zero=>rfl
 |succ k=>simp only[Bn,List.getElem?_eq_none hp]
def tG{B0:Nat}{ι:Ren}{l:List B9}(lp:Nat)(J:List (Pl l)->World->Prop)(a:Act)(W:World):Prop:=
 ∃(pre:List (Pl l)) (p k:Nat) (y:Nat->Value),pre.map Subtype.val++Bn l k p=A5 l/\l.length<=p+k/\p<=l.length+2/\J pre W/\Rel B0 1 ι (Hn (AE l) l.length) W/\Be ι 20 (AB 20 (up y (dj lp (p:Int)))) a/\a.defers= []
theorem Jr{B0:Nat}{ι:Ren}{l:List B9}{w:World}{nn:Nat}(hr:Rel B0 1 ι (Hn (AE l) l.length) w){Lb:Go.DI.Loc}(hb:ι 2=some Lb)(hS:DY l):
  SeqStopsK Fence.wide nn Tryz.prog 93 #[.pointer (some ⟨Lb.block,Lb.base+0,none⟩)] (S2 l) (tB B0 ι l) (λxs=>xs.map Subtype.val=A5 l) (λ_=>True) (A5 l).length w:=by
 intro lp J Jx W hW hJ hJx hY h0
 have hrW:=PI hr hW
 have hm:=hS.most
 refine callsIn_of_wp iU iV trivial ?_ rfl
 have hst:Be ι 20 (AB 20 (Bv [yV lp,BP 2 0])) {tmps:=(#[.func (.yield lp) #[] #[]]++ #[.pointer (some ⟨Lb.block,Lb.base+0,none⟩)])++Array.replicate (Tryz.f93.ntmps - (#[.func (.yield lp) #[] #[]]++ #[.pointer (some ⟨Lb.block,Lb.base+0,none⟩)]:Array Value).size) undef,defers:= []}:=
  LN (ι:=ι) (args:= [yV lp,BP 2 0]) (args':= [.func (.yield lp) #[] #[], .pointer (some ⟨Lb.block,Lb.base+0,none⟩)]) (nt:=20) (.cons (Ng ι lp) (.cons (.ptr 2 0 Lb hb) .nil))
 have e0:AB 20 (Bv [yV lp,BP 2 0])=AB 20 (up (Bv [yV lp,BP 2 0]) [(0,yV lp),(1,BP 2 0)]):=by rw[up_self _ _ (by intro q hq;simp only[List.mem_cons,List.not_mem_nil,or_false]at hq;rcases hq with rfl|rfl<;>rfl)]
 rw[e0]at hst
 rw[pD]
 refine wpIn_seq (IX (tA _ (AE l) l.length lp) AT hrW hst λa1 W1 t1 ht1 k0 k1 k3 _ hd1 hr1 hg1=>?_)
 simp only[Exit.then]
 refine wpIn_block (wpIn_loop (tG (B0:=B0) (ι:=ι) (l:=l) lp J) (λa _=>tC l.length a) ?_ ?_)
 ·obtain⟨y,hy⟩:=ht1.full (dj lp ((0:Nat):Int)) (by
   intro q hq;simp only[dj,List.mem_cons,List.not_mem_nil,or_false]at hq;rcases hq with rfl|rfl|rfl
   ·exact k0
   ·exact k1
   ·exact k3)
  exact⟨[],0,l.length,y,rfl,by omega,by omega,hJ [] W W1 none h0 hg1 (λr e=>by cases e),hr1,hy,hd1⟩
 ·rintro a W ⟨pre,p,k,y,hpre,hk,hp2,hJp,hrp,htp,hdp⟩;have h3:a.tmps.getD 3 undef= .int .i64 (p:Int):=htp.int (by rw[GL];rfl);refine wpIn_seq (wpIn_seq ?_);by_cases hlt:p<l.length
  ·obtain⟨k',x,rfl,hx,hgo⟩:=S8 hk hlt;refine IX (lS y (AE l) l.length lp (p:Int) true) (AA (by simp[B6,Ba,Bc];omega) AT) hrp htp λa1 W1 t1 ht1 k0 k1 k3 k7 hd1 hr1 hg1=>?_;simp only[Exit.then];have h7:a1.tmps.getD 7 undef= .bool true:=ht1.bool k7;refine wpIn_cond_true (show a1.eval (.tmp 7)= .bool true from h7) (wpIn_skip ?_);simp only[Exit.then];have hJ1:J pre W1:=hJ pre W W1 none hJp hg1 (λr e=>by cases e);have hmem:p∈A5 l:=by rw[←hpre,hgo];simp
   have hN:pre.length< (A5 l).length:=by
    rw[←hpre,hgo];simp
   obtain⟨fn,tmps,assign,body,hy,hR⟩:=hY pre ⟨p,hmem⟩ W1 hJ1 hN;refine wpIn_block (wpIn_seq (wpIn_seq (wpIn_region ?_)));have w0:a1.eval (.tmp 0)=yV lp:=ht1.yield k0;have w3:a1.eval (.tmp 3)= .int .i64 (p:Int):=ht1.int k3;rw[tF];show wpOpsIn Fence.wide nn Tryz.prog #[jF,tE,pI,pJ] _ [0,1,2,3] a1 W1;refine KW (o:=jF) rfl rfl (run_move (x:= .tmp 0) rfl) ?_
   have ht2:Be ι 20 (t1.set 8 (yV lp)) (a1.put jF.dst (a1.eval (.tmp 0))):=by
    rw[w0];exact ht1.putD (n:=20) (dst:=some 8) rfl (Ng ι lp)
   have w3':(a1.put jF.dst (a1.eval (.tmp 0))).eval (.tmp 3)= .int .i64 (p:Int):=ht2.int (by rw[AF.at_set];exact k3);refine KW (o:=tE) rfl rfl (run_move (x:= .tmp 3) rfl) ?_
   have ht3:Be ι 20 ((t1.set 8 (yV lp)).set 9 (.int .i64 (p:Int))) ((a1.put jF.dst (a1.eval (.tmp 0))).put tE.dst ((a1.put jF.dst (a1.eval (.tmp 0))).eval (.tmp 3))):=by
    rw[w3'];exact ht2.putD (n:=20) (dst:=some 9) rfl (.int _ _)
   obtain⟨a3,ha3⟩:∃a3,(a1.put jF.dst (a1.eval (.tmp 0))).put tE.dst ((a1.put jF.dst (a1.eval (.tmp 0))).eval (.tmp 3))=a3:=⟨_,rfl⟩;have hd3:a3.defers= []:=by rw[←ha3];exact(put_defers _ _ _).trans ((put_defers _ _ _).trans (hd1.trans hdp))
   rw[ha3]at ht3 ⊢;have w8:a3.eval (.tmp 8)=yV lp:=ht3.yield (by rw[AF.at_set_ne _ (by decide),AF.at_set_same];rfl);have w9:a3.eval (.tmp 9)= .int .i64 (p:Int):=ht3.int (by rw[AF.at_set_same])
   have hargs:(#[Operand.tmp 9].map a3.eval)=S2 l ⟨p,hmem⟩:=by
    rw[show(#[Operand.tmp 9]).map a3.eval= #[a3.eval (.tmp 9)]from by simp,w9];rfl
   refine Tx (o:=pI) rfl rfl ((SC (f:= .tmp 8) (args:= #[.tmp 9]) (tys:= #[3]) (l:=lp) rfl w8).trans (by rw[hargs];exact hy)) (hR.mono ?_)
   have ht4:∀b,Be ι 20 ((((t1.set 8 (yV lp)).set 9 (.int .i64 (p:Int))).set 10 (.bool b)).set 11 (.bool (!b))) ((a3.put pI.dst (.bool b)).put pJ.dst (.bool (!b))):=λb=>
    (ht3.putD (n:=20) (dst:=some 10) rfl (.bool b)).putD (n:=20) (dst:=some 11) rfl (.bool (!b))
   have z4:∀(b:Bool) (d:Nat),d≠8->d≠9->d≠10->d≠11->AF.at ((((t1.set 8 (yV lp)).set 9 (.int .i64 (p:Int))).set 10 (.bool b)).set 11 (.bool (!b))) d=t1.at d:=λb d n8 n9 xl n11=>by
    rw[AF.at_set_ne _ n11,AF.at_set_ne _ xl,AF.at_set_ne _ n9,AF.at_set_ne _ n8]
   have w10:∀b,(a3.put pI.dst (.bool b)).eval (.tmp 10)= .bool b:=λb=>
    Be.bool (ht3.putD (n:=20) (dst:=some 10) rfl (.bool b)) (by show(AF.set _ 10 _).at 10=_;rw[AF.at_set_same])
   have w11:∀b,((a3.put pI.dst (.bool b)).put pJ.dst (.bool (!b))).eval (.tmp 11)= .bool (!b):=λb=>(ht4 b).bool (by rw[AF.at_set_same]);have hd4:∀b,((a3.put pI.dst (.bool b)).put pJ.dst (.bool (!b))).defers= []:=λb=>(put_defers _ _ _).trans ((put_defers _ _ _).trans hd3);rintro e W2 (⟨rfl,hJ2,hK2⟩|⟨rfl,hx2⟩)
   ·refine⟨_,rfl,KW (o:=pJ) rfl rfl (V8 (x:= .tmp 10) (ty:=4) (b:=true) rfl (w10 true)) ?_⟩;simp only[wpOpsIn,Exit.then,Exit.inBlock];refine wpIn_cond_false (w11 true) (wpIn_skip ?_);simp only[Exit.then,Exit.inBlock];have hr2:Rel B0 1 ι (Hn (AE l) l.length) W2:=hK2 hr1
    obtain⟨y2,hy2⟩:=(ht4 true).full (dj lp (p:Int)) (by
     intro q hq;simp only[dj,List.mem_cons,List.not_mem_nil,or_false]at hq;rcases hq with rfl|rfl|rfl
     ·exact(z4 true 0 (by decide) (by decide) (by decide) (by decide)).trans k0
     ·exact(z4 true 1 (by decide) (by decide) (by decide) (by decide)).trans k1
     ·exact(z4 true 3 (by decide) (by decide) (by decide) (by decide)).trans k3)
    have next:∀(j:Nat),1<=j->j<=2->RH x=j->∀(a5:Act) (W5:World) (t5:AF),Be ι 20 t5 a5->t5.at 0=yV lp->t5.at 1=BP 2 0->t5.at 3= .int .i64 ((p+j:Nat):Int)->a5.defers= []->Rel B0 1 ι (Hn (AE l) l.length) W5->W2.grownBy W5 none->
      tG (B0:=B0) (ι:=ι) (l:=l) lp J a5 W5/\tC l.length a5<tC l.length a:=by
     intro j hj1 hj2 hpl a5 W5 t5 ht5 z0 z1 z3 hd5 hr5 hg5
     obtain⟨y5,hy5⟩:=ht5.full (dj lp ((p+j:Nat):Int)) (by
      intro q hq;simp only[dj,List.mem_cons,List.not_mem_nil,or_false]at hq;rcases hq with rfl|rfl|rfl
      ·exact z0
      ·exact z1
      ·exact z3)
     refine⟨⟨pre++ [⟨p,hmem⟩],p+j,k',y5,?_,by omega,by omega,hJ _ W2 W5 none hJ2 hg5 (λr e=>by cases e),hr5,hy5,hd5⟩,?_⟩
     ·refine Eq.trans ?_ hpre;rw[hgo,List.map_append,List.append_assoc,←hpl];rfl
     ·rw[bl (ht5.int z3),bl h3];omega
    have hM:(Hn (AE l) l.length).top:=EJ _;have hM0:(Hn (AE l) l.length).get 0= .cells false gl:=by kernel_rfl
    rcases jD hS hmem hx with⟨hpl,hrun⟩|⟨hpl,hrun⟩
    ·refine IX (pF y2 (AE l) (AU x) l.length lp (p:Int)) (AA (Cc hx) (AA (Cd hx) (AA (bh hM hM0 (by show 1<=3;decide) hrun) AT))) hr2 hy2 λa5 W5 t5 ht5 z0 z1 z3 _ hd5 hr5 hg5=>?_;exact next 1 (by decide) (by decide) hpl a5 W5 t5 ht5 z0 z1 (by rw[z3,UH (by omega)]) (hd5.trans (hd4 true)) hr5 hg5
    ·refine IX (pH y2 (AE l) (AU x) l.length lp (p:Int)) (AA (Cc hx) (AA (Cd hx) (AA (bh hM hM0 (by show 1<=3;decide) hrun) AT))) hr2 hy2 λa5 W5 t5 ht5 z0 z1 z3 _ hd5 hr5 hg5=>?_;refine next 2 (by decide) (by decide) hpl a5 W5 t5 ht5 z0 z1 ?_ (hd5.trans (hd4 true)) hr5 hg5;rw[z3,show Int.add (p:Int) 2=((p+2:Nat):Int)from rfl,wrap_i64 ⟨by omega,by omega⟩]
   ·refine⟨_,rfl,KW (o:=pJ) rfl rfl (V8 (x:= .tmp 10) (ty:=4) (b:=false) rfl (w10 false)) ?_⟩;simp only[wpOpsIn,Exit.then,Exit.inBlock];refine wpIn_cond_true (w11 false) (wpIn_ret ?_);simp only[Exit.then,Exit.inBlock];exact⟨hd4 false,_,results_none rfl _ _ _,⟨_,rfl⟩, .inr ⟨_,trivial,hx2⟩⟩
  ·refine IX (lS y (AE l) l.length lp (p:Int) false) (AA (by simp[B6,Ba,Bc];omega) AT) hrp htp λa1 W1 t1 ht1 k0 k1 k3 k7 hd1 hr1 hg1=>?_;simp only[Exit.then];have h7:a1.tmps.getD 7 undef= .bool false:=ht1.bool k7;refine wpIn_cond_false (show a1.eval (.tmp 7)= .bool false from h7) (wpIn_exit ?_);simp only[Exit.then,Exit.inBlock];have hJ1:J pre W1:=hJ pre W W1 none hJp hg1 (λr e=>by cases e);rw[UQ (by omega),List.append_nil]at hpre;exact⟨hd1.trans hdp,_,results_none rfl _ _ _,⟨_,rfl⟩, .inl ⟨pre,hpre,hJ1⟩⟩
def Lt(bx i:Nat):Nat:=if i=2 then bx else i
def i93(ι:Ren)(bx:Nat):Ren:=ι.sub (Lt bx) λi=>Nat.blt i 3
theorem Jq(ι:Ren)(bx b:Nat)(h:b<3):i93 ι bx b=ι (Lt bx b):=by
 show(if Nat.blt b 3=true then _ else none)=_
 rw[if_pos (by simp[Nat.blt_eq];omega)]
theorem dU{B0:Nat}{ι:Ren}{own:Bool}{c:List Value}{L:Go.DI.Loc}{W:World}(h:Bg B0 ι (.cells own c) L W):Bg B0 ι (.cells false c) L W:=by
 obtain⟨rc,e,fr,h1,h2,h3,h4,h5⟩:=h
 exact⟨rc,e,fr,h1,h2,h3,h4,λh=>by cases h⟩
theorem bK{B0:Nat}{w0 W:World}{ι:Ren}{m:Mem}{bx:Nat}{o1 o2:Bool}{l:List B9}(hs:Go.DI.St B0 w0 ι m W)(hz:1<m.size)(hbx:bx<m.size)(hb2:2<=bx)(g0:m.get 0= .cells false gl)(g1:m.get 1= .cells o1 (AE l))(gx:m.get bx= .cells o2 [A6 1 l.length]):
  Rel B0 1 (i93 ι bx) (Hn (AE l) l.length) W:=by
 have key:∀b,b<3->Lt bx b<m.size/\(m.get (Lt bx b)).live:=λb hb=>by
  have:b=0\/b=1\/b=2:=by omega
  rcases this with rfl|rfl|rfl
  ·refine⟨by show 0<_;omega,?_⟩;show(m.get 0).live;rw[g0];trivial
  ·refine⟨hz,?_⟩;show(m.get 1).live;rw[g1];trivial
  ·refine⟨hbx,?_⟩;show(m.get bx).live;rw[gx];trivial
 refine⟨λb L hb hL=>?_,λb₁ b₂ L₁ L₂ b1 b2 e1 e2 l1 l2 g0' e=>?_,hs.rel.floor,λg hg=>?_,EJ _⟩
 ·have hb:b<3:=hb;rw[Jq ι bx b hb]at hL;have hr:=hs.rel.blk _ L (key b hb).1 hL;have:b=0\/b=1\/b=2:=by omega
  rcases this with rfl|rfl|rfl
  ·have hr:Bg B0 ι (m.get 0) L W:=hr;rw[g0]at hr;rw[show(Hn (AE l) l.length).get 0= .cells false gl by kernel_rfl];exact(FG (ρ:=Lt bx) (k:=λi=>Nat.blt i 3) CO).rel B0 ι L W hr
  ·have hr:Bg B0 ι (m.get 1) L W:=hr;rw[g1]at hr;have h2:=bsim_ren (ρ:=Lt bx) (nb:=3) (b:= .cells false (AE l)) (λv hv=>F9 (List.all_eq_true.1 (BR l) v hv)) (λv hv=>Dv (List.all_eq_true.1 (BR l) v hv));rw[show(Hn (AE l) l.length).get 1= .cells false (AE l)by kernel_rfl];refine h2.rel B0 ι L W ?_;show Bg B0 ι (.cells false ((AE l).map _)) L W;rw[CZ (BR l)];exact dU hr
  ·have hr:Bg B0 ι (m.get bx) L W:=hr;rw[gx]at hr;have h2:=bsim_ren (ρ:=Lt bx) (nb:=3) (b:= .cells false [A6 1 l.length]) (λv hv=>by obtain rfl:=List.mem_singleton.1 hv;rfl) (λv hv=>by obtain rfl:=List.mem_singleton.1 hv;rfl);rw[show(Hn (AE l) l.length).get 2= .cells false [A6 1 l.length]by kernel_rfl];refine h2.rel B0 ι L W ?_;exact dU hr
 ·have b1:b₁<3:=b1;have b2:b₂<3:=b2;rw[Jq ι bx _ b1]at e1;rw[Jq ι bx _ b2]at e2;have:=hs.rel.inj _ _ _ _ (key b₁ b1).1 (key b₂ b2).1 e1 e2 (key b₁ b1).2 (key b₂ b2).2 g0' e;unfold Lt at this;split at this<;>split at this<;>omega
 ·obtain rfl:g=0:=by omega
  obtain⟨L,p1,p2⟩:=hs.rel.glob 0 (by decide);exact⟨L,by rw[Jq ι bx 0 (by decide)];exact p1,p2⟩
theorem bL{B0:Nat}{ι:Ren}{l:List B9}{A B C:World}(h:tB B0 ι l A B)(k:tB B0 ι l B C):tB B0 ι l A C:=λg=>k (h g)
theorem YS(l:List B9):∀b,((Hn (AE l) l.length).get b).live->∃o c,(Hn (AE l) l.length).get b= .cells o c:=by
 intro b hb
 have e:(Hn (AE l) l.length).get b=if b<1 then(mG gl).get b else(match [BI.cells false (AE l),BI.cells false [A6 1 l.length]][b - 1]? with|some x=>x|none=>(mG gl).get b):=CM _ (mG gl) b
 rw[e]at hb ⊢
 by_cases h:b<1
 ·obtain rfl:b=0:=by omega
  rw[if_pos h,mG_get];exact⟨_,_,rfl⟩
 ·rw[if_neg h]at hb ⊢;rcases hj:b - 1 with _|_|j
  ·exact⟨_,_,rfl⟩
  ·exact⟨_,_,rfl⟩
  ·rw[hj]at hb;have hb:((mG gl).get b).live:=hb;rw[mG_top gl b (by rw[mG_size];omega)]at hb;exact hb.elim
theorem bM{B0:Nat}{ι:Ren}{l:List B9}(W:World)(k:Nat)(o o':Obj)(hk:W.heap[k]?=some o)(hno:o.isCells=false):tB B0 ι l W (W.putObj k o'):=λhr=>by
 have hg:=grownBy_putObj' W k o'
 refine⟨λb L hb hL=>?_,hr.inj,Nat.le_trans hr.floor hg.size,hr.glob,hr.top⟩
 have hb0:=hr.blk b L hb hL
 refine hb0.monoL (λ_ _ h=>h) λhl=>?_
 obtain⟨o1,c,hgb⟩:=YS l b hl
 refine hg.block _ (hb0.lt hl) λe=>?_
 have e:L.block=k:=Option.some.inj e
 rw[hgb]at hb0
 obtain⟨rc,e1,fr,h1,_⟩:=hb0
 rw[e,hk]at h1
 cases h1
 cases hno
theorem Q5{ι:Ren}{n:Nat}{t:AF}{a:Act}(ht:Be ι n t a){d bx:Nat}(hd:t.at d= .func (.func 93) #[] #[BP bx 0]):∃Lb,ι bx=some Lb/\a.tmps.getD d undef= .func (.func 93) #[] #[.pointer (some ⟨Lb.block,Lb.base+0,none⟩)]:=by
 have:=ht.2 d
 rw[hd]at this
 generalize a.tmps.getD d undef=u at this ⊢
 cases this with
 |func fn x x' y y' hx hy h1 h2=>
  have e1:x'= #[]:=Array.eq_empty_of_size_eq_zero hx.symm
  obtain⟨v,hv⟩:∃v,y'= #[v]:=by
   have:y'.size=1:=hy.symm;refine⟨y'[0],Array.ext (by simp[this]) λi hi hj=>?_⟩;obtain rfl:i=0:=by omega
   rfl
  subst e1 hv;have:=h2 0 (BP bx 0) v rfl rfl;cases this with
  |ptr _ _ L hL=>exact⟨L,hL,rfl⟩
noncomputable def xZ:Code:=AM Tryz.f69
theorem x9:Tryz.prog.funcs[69]?=some Tryz.f69:=by kernel_rfl
theorem xe:Tryz.f69.body=some xZ:=by kernel_rfl
noncomputable def Y8(i:Nat):Array Oper:=IQ xZ i
theorem qU:xZ= .seq (.region 0 (Y8 0) false) (.seq (.region 1 (Y8 1) false) (.seq (.seq (.region 2 (Y8 2) false) (.block 0 (.rangeFunc (.tmp 9) #[10] (.region 3 (Y8 3) false) (.block 1 (.region 4 (Y8 4) false))))) (.seq (.region 5 (Y8 5) false) .ret))):=by kernel_rfl
noncomputable def hS(z y:List Value):H.Hint where
 ix t:=Nat.beq t 143
 ld _ _ _:=none
 cmp _ _:=none
 ap _:=none
 call f:=cond (Nat.beq f 48||(Nat.beq f 47||Nat.beq f 68)) (some undef) none
 spec _ _ _ _:=False
 blk:=0
 mks t:=cond (Nat.beq t 143) (some (.cells true z)) none
 st t b:=cond (Nat.beq t 4 && Nat.beq b 2) (some (.cells true y)) none
theorem Sf{z y:List Value}(f:FuncId)(v:Value)(args:List Value)(m:Mem)(hc:(hS z y).call f=some v)(hs:(hS z y).says f args m v):Q4 f args m=some (v,(hS z y).eff f m):=hs.elim
theorem OJ{z y:List Value}(f:FuncId)(hc:(hS z y).call f=none)(a:List Value)(m:Mem):Q4 f a m=none:=
 MU (by rintro rfl;cases hc) (by rintro rfl;cases hc) (by rintro rfl;cases hc) a m
noncomputable def YT(n:Nat):Value:= .slice (some ⟨2,0,none⟩) n n
noncomputable def rE(o1:Bool)(L:List Value):Mem:=mS gl [.cells o1 L]
noncomputable def yW(o1:Bool)(L z:List Value)(n:Nat):Mem:=mS gl [.cells o1 L, .cells true z, .cells true [YT n]]
noncomputable def U7(o1:Bool)(L z:List Value)(n:Nat):Mem:=mS gl [.cells o1 L, .cells true z, .cells true [YT n], .cells true [A6 1 n]]
noncomputable def yk:Value:= .pointer (some ⟨4,0,none⟩)
noncomputable def Q3(bx:Nat):Value:= .func (.func 93) #[] #[BP bx 0]
noncomputable def yX(z:List Value)(n:Nat):Prop:=H.mkOk Tryz.prog 1 143 (.int .i64 (Int.ofNat n)) (.int .i64 (Int.ofNat n)) (.cells true z) n n
noncomputable def yY(z y:List Value)(p:Int):Prop:=H.stOk Tryz.prog (.cells true z) 4 (Nat.add 0 (Nat.mul p.toNat 1)) (.bool true) (.cells true y)
theorem l7(x:Nat->Value)(o1:Bool)(L:List Value)(n:Nat):Rn (LO (hS [] []) Tryz.prog kp (.region 0 (Y8 0) false) 15 [0] (AB 15 (up x [(0,A6 1 n)])) (rE o1 L)) ((.normal,[A6 1 n],rE o1 L),[]):=⟨by kernel_rfl,by kernel_rfl⟩
theorem l8(x:Nat->Value)(o1:Bool)(L z:List Value)(n:Nat):Rn (LO (hS z []) Tryz.prog kp (.region 1 (Y8 1) false) 15 [0,3] (AB 15 (up x [(0,A6 1 n)])) (rE o1 L)) ((.normal,[A6 1 n,BP 3 0],yW o1 L z n),[yX z n]):=⟨by kernel_rfl,by kernel_rfl⟩
theorem l9(x:Nat->Value)(o1:Bool)(L z:List Value)(n:Nat):Rn (LO (hS [] []) Tryz.prog kp (.region 2 (Y8 2) false) 15 [3,9] (AB 15 (up x [(0,A6 1 n),(3,BP 3 0)])) (yW o1 L z n)) ((.normal,[BP 3 0,Q3 4],U7 o1 L z n),[]):=⟨by kernel_rfl,by kernel_rfl⟩
theorem lh(x:Nat->Value)(o1:Bool)(L z y:List Value)(n:Nat)(p:Int):Rn (LO (hS [] y) Tryz.prog kp (.block 1 (.region 4 (Y8 4) false)) 15 [] (AB 15 (up x [(3,BP 3 0),(4, .int .i64 p)])) (U7 o1 L z n)) ((.normal,[],U7 o1 L y n),[IV p n,yY z y p]):=⟨by kernel_rfl,by kernel_rfl⟩
theorem lj(x:Nat->Value)(o1:Bool)(L z:List Value)(n:Nat):Rn (LO (hS [] []) Tryz.prog kp (.region 5 (Y8 5) false) 15 [2] (AB 15 (up x [(3,BP 3 0)])) (U7 o1 L z n)) ((.normal,[YT n],U7 o1 L z n),[]):=⟨by kernel_rfl,by kernel_rfl⟩
def AW(s:List Nat)(n:Nat):List Value:=(List.range n).map λi=>Value.bool (decide (i∈s))
theorem Gc(s:List Nat)(n:Nat):(AW s n).length=n:=by simp[AW]
theorem Gd(s:List Nat)(n i:Nat):(AW s n)[i]?=if i<n then some (.bool (decide (i∈s)))else none:=by
 unfold AW
 rw[List.getElem?_map]
 by_cases h:i<n
 ·rw[List.getElem?_range h,if_pos h];rfl
 ·rw[List.getElem?_eq_none (by simp;omega),if_neg h];rfl
theorem Sg(v:Value):∀n,Fo [v] n=List.replicate n v
 |0=>rfl
 |n+1=>by
  show v::Fo [v] n=_;rw[Sg v n];rfl
theorem qV:Tryz.prog.underlying 143=some (.slice 4):=by kernel_rfl
theorem xg:bytesOf Tryz.prog 4=some 1:=by kernel_rfl
theorem xh(n:Nat):Df Tryz.prog 4 n=some (Fo [.bool false] n):=by kernel_rfl
theorem qW{n:Nat}(h:n<=512):yX (AW [] n) n:=λt lx cx h1 h2=>by
 have hb:AW [] n=Fo [.bool false] n:=by
  rw[Sg];apply List.ext_getElem?;intro i;rw[Gd,List.getElem?_replicate];simp
 unfold Eo
 simp only[qV,h1,h2,xg,Int.ofNat_eq_natCast]
 rw[if_pos ⟨by omega,by omega,by omega,by omega⟩,Int.toNat_natCast,xh,hb]
theorem qX{s:List Nat}{n p:Nat}(h:p<n):yY (AW s n) (AW (s++ [p]) n) (p:Int):=λm b hm=>by
 have hsz:Bz Tryz.prog 4=some 1:=by kernel_rfl
 have hoff:Nat.add 0 (Nat.mul (p:Int).toNat 1)=p:=by
  show 0+(p:Int).toNat*1=p;simp
 rw[hoff]
 have hc:(Value.bool true).cells.toList= [.bool true]:=rfl
 unfold Bx
 simp only[hsz,hc]
 rw[if_pos (by rfl)]
 unfold EX
 rw[hm]
 simp only
 rw[if_pos (by rw[Gc];simp;omega),if_pos (show [Value.bool true].all one=true from rfl)]
 have:splice (AW s n) p [.bool true]=AW (s++ [p]) n:=by
  apply List.ext_getElem?;intro i;rw[FE _ _ _ _ (by rw[Gc];simp;omega),Gd,Gd];by_cases hi:i=p
  ·subst hi;rw[if_pos (by simp),if_pos h];simp
  ·rw[if_neg (by simp;omega)];simp[hi]
 rw[this]
theorem Cw(ss:List BI)(j:Nat):(mS gl ss).get j=if j<1 then(mG gl).get j else(match ss[j - 1]? with|some x=>x|none=>(mG gl).get j):=CM ss (mG gl) j
theorem GU{ss:List BI}(h:∀s∈ss,∃o c,s= .cells o c)(b:Nat)(hb:((mS gl ss).get b).live):∃o c,(mS gl ss).get b= .cells o c:=by
 rw[Cw]at hb ⊢
 by_cases h0:b<1
 ·obtain rfl:b=0:=by omega
  rw[if_pos h0,mG_get];exact⟨_,_,rfl⟩
 ·rw[if_neg h0]at hb ⊢;cases hj:ss[b - 1]? with
  |some x=>exact h x (List.mem_of_getElem? hj)
  |none=>
   rw[hj]at hb;have hb:((mG gl).get b).live:=hb;rw[mG_top gl b (by rw[mG_size];omega)]at hb;exact hb.elim
theorem Cx{ss:List BI}(h:∀s∈ss,∃o c,s= .cells o c):GB (mS gl ss):=λb hb=>GU h b (aW hb)
theorem K7(ss:List BI):(mS gl ss).size=1+ss.length:=by unfold mS;rw[Cm,mG_size]
theorem WH{B0:Nat}{ι:Ren}{ss:List BI}{W:World}(hr:Rel B0 1 ι (mS gl ss) W)(hok:∀s∈ss,okB s/\seenB (1+ss.length) s):Rel B0 1 (ι.sub id λi=>Nat.blt i (1+ss.length)) (mS gl ss) W:=by
 have hin:∀b L,(ι.sub id λi=>Nat.blt i (1+ss.length)) b=some L->b<1+ss.length/\ι b=some L:=λb L h=>by
  obtain⟨g1,g2⟩:=sub_id _ _ _ _ h;exact⟨by simpa[Nat.blt_eq]using g1,g2⟩
 refine⟨λb L hb hL=>?_,λb₁ b₂ L₁ L₂ b1 b2 e1 e2 l1 l2 g0 e=>hr.inj _ _ _ _ b1 b2 (hin _ _ e1).2 (hin _ _ e2).2 l1 l2 g0 e,hr.floor,λg hg=>?_,hr.top⟩
 ·obtain⟨g1,g2⟩:=hin b L hL;have hb0:=hr.blk b L hb g2;by_cases h0:b=0
  ·subst h0;have e0:(mS gl ss).get 0= .cells false gl:=by rw[Cw,if_pos (by decide),mG_get]
   rw[e0]at hb0 ⊢;exact(FG (ρ:=id) (k:=λi=>Nat.blt i (1+ss.length)) CO).rel B0 ι L W hb0
  ·have hj:b - 1<ss.length:=by omega
   have eb:(mS gl ss).get b=ss[b - 1]:=by rw[Cw,if_neg (by omega),List.getElem?_eq_getElem hj]
   rw[eb]at hb0 ⊢;obtain⟨k1,k2⟩:=hok _ (List.getElem_mem hj);have:=bsim_ren (ρ:=id) k1 k2;rw[renB_id k1]at this;exact this.rel B0 ι L W hb0
 ·obtain⟨L,p1,p2⟩:=hr.glob g hg;obtain rfl:g=0:=by omega
  refine⟨L,?_,p2⟩;show(if Nat.blt 0 (1+ss.length)=true then ι 0 else none)=some L;rw[if_pos (by simp[Nat.blt_eq];omega)];exact p1
theorem S1{B0:Nat}{ι:Ren}{own:Bool}{L:List Value}{W:World}(hr:Rel B0 1 ι (mS gl [.cells own L]) W):Rel B0 1 ι (mS gl [.cells false L]) W:=by
 have hlive:∀b,((mS gl [.cells false L]).get b).live->((mS gl [.cells own L]).get b).live:=λb hb=>by
  rw[Cw]at hb ⊢;split
  ·rename_i h;rw[if_pos h]at hb;exact hb
  ·rename_i h;rw[if_neg h]at hb;rcases hj:b - 1 with _|j
   ·rw[hj]at hb;trivial
   ·rw[hj]at hb;exact hb
 refine⟨λb L' hb hL=>?_,λb₁ b₂ L₁ L₂ b1 b2 e1 e2 l1 l2 g0 e=>hr.inj _ _ _ _ b1 b2 e1 e2 (hlive _ l1) (hlive _ l2) g0 e,hr.floor,hr.glob,EJ _⟩
 have h:=hr.blk b L' hb hL
 have hb:b<2:=hb
 have:b=0\/b=1:=by omega
 rcases this with rfl|rfl
 ·have e0:∀o,(mS gl [.cells o L]).get 0= .cells false gl:=λo=>by rw[Cw,if_pos (by decide),mG_get]
  rw[e0]at h ⊢;exact h
 ·have e1:∀o,(mS gl [.cells o L]).get 1= .cells o L:=λo=>by rw[Cw];rfl
  rw[e1]at h ⊢;exact dU h
theorem Iz{l:List B9}{p:Nat}(h:p∈A5 l):p<l.length:=by
 have key:∀(k q:Nat),p∈Bn l k q->p<l.length:=by
  intro k;induction k with
  |zero=>intro q h;simp[Bn]at h
  |succ k ih=>
   intro q h;simp only[Bn]at h;cases hx:l[q]? with
   |none=>rw[hx]at h;simp at h
   |some x=>
    rw[hx]at h;simp only[List.mem_cons]at h;rcases h with rfl|h
    ·exact(List.getElem?_eq_some_iff.1 hx).1
    ·exact ih _ h
 exact key _ _ h
def aS:Oper:={dst:=some 4,op:= .assign (.tmp 10),type:=3,pos:= "shape.go:36",after:= #[],guard:=none}
theorem three{o1 o2 o3:Bool}{a b c:List Value}:∀s∈ [BI.cells o1 a, .cells o2 b, .cells o3 c],∃o c,s= .cells o c:=by
 intro s hs
 simp only[List.mem_cons,List.not_mem_nil,or_false]at hs
 rcases hs with rfl|rfl|rfl<;>exact⟨_,_,rfl⟩
theorem four{o1 o2 o3 o4:Bool}{a b c d:List Value}:∀s∈ [BI.cells o1 a, .cells o2 b, .cells o3 c, .cells o4 d],∃o c,s= .cells o c:=by
 intro s hs
 simp only[List.mem_cons,List.not_mem_nil,or_false]at hs
 rcases hs with rfl|rfl|rfl|rfl<;>exact⟨_,_,rfl⟩
theorem uO{o1:Bool}{a:List Value}:∀s∈ [BI.cells o1 a],∃o c,s= .cells o c:=by
 intro s hs
 obtain rfl:=List.mem_singleton.1 hs
 exact⟨_,_,rfl⟩
theorem bG(s:List Nat)(n nb:Nat):okB (.cells true (AW s n))/\seenB nb (.cells true (AW s n)):=by
 constructor<;>
 ·intro v hv;obtain⟨i,_,rfl⟩:=List.mem_map.1 hv;rfl
theorem YC{B0:Nat}{own:Bool}{l:List B9}(hS:DY l):EI Tryz.prog B0 1 69 [A6 1 l.length] (mS gl [.cells own (AE l)]) (YT l.length) (mS gl [.cells own (AE l), .cells true (AW (A5 l) l.length)]):=by
 intro ι w args' hr hf hargs
 have hm:=hS.most
 have hcp:∀o:Bool,okB (.cells o (AE l))/\∀nb,seenB nb (.cells o (AE l)):=λo=>⟨λv hv=>F9 (List.all_eq_true.1 (BR l) v hv),λnb v hv=>Dv (List.all_eq_true.1 (BR l) v hv)⟩
 obtain⟨ι0,hι0⟩:∃ι0,(ι.sub id λi=>Nat.blt i (1+ [BI.cells false (AE l)].length))=ι0:=⟨_,rfl⟩
 have hat:∀b,b<2->ι0 b=ι b:=λb hb=>by
  rw[←hι0];show(if Nat.blt b 2=true then ι b else none)=ι b;rw[if_pos (by simp[Nat.blt_eq];omega)]
 have hno:∀b,2<=b->ι0 b=none:=λb hb=>by
  rw[←hι0];show(if Nat.blt b 2=true then ι b else none)=none;rw[if_neg (by simp[Nat.blt_eq];omega)]
 have hr0:Rel B0 1 ι0 (rE false (AE l)) w:=by
  rw[←hι0];exact WH (S1 hr) (λs hs=>by obtain rfl:=List.mem_singleton.1 hs;exact⟨(hcp false).1,(hcp false).2 _⟩)
 have hs0:Go.DI.St B0 w ι0 (rE false (AE l)) w:=⟨hr0,λb hb=>hno b hb,Below.refl _ _,λb L hL ho=>by
  exfalso;unfold rE at ho;rw[Cw]at ho;split at ho
  ·rename_i h0;obtain rfl:b=0:=by omega
   rw[mG_get]at ho;cases ho
  ·rcases hj:b - 1 with _|j
   ·rw[hj]at ho;cases ho
   ·rw[hj]at ho;have ho:((mG gl).get b).own=true:=ho;rw[mG_top gl b (by rw[mG_size];omega)]at ho;cases ho⟩
 have hargs0:Bb ι0 [A6 1 l.length] args':=by
  cases hargs with
  |cons h t=>
   cases t;refine .cons ?_ .nil;have:=VR (ρ:=id) (nb:=2) (v:=A6 1 l.length) rfl rfl;rw[VW (by rfl)]at this;rw[←hι0];exact this ι _ h
 have hst:=LN (nt:=15) hargs0
 have e0:AB 15 (Bv [A6 1 l.length])=AB 15 (up (Bv [A6 1 l.length]) [(0,A6 1 l.length)]):=by rw[up_self _ _ (by intro q hq;obtain rfl:=List.mem_singleton.1 hq;rfl)]
 have hst:Be ι0 15 (AB 15 (up (Bv [A6 1 l.length]) [(0,A6 1 l.length)])) {tmps:=args'.toArray++Array.replicate (Tryz.f69.ntmps - args'.toArray.size) undef,defers:= []}:=by
  rw[←e0];exact hst
 refine(callsIn_wide (n:=1)).1 (callsIn_of_wp_marks x9 xe trivial ?_ rfl)
 rw[qU]
 refine wpIn_seq (D4 Bu hK Ed (Jp B0) Gb Sf OJ (l7 _ false (AE l) l.length).1 (l7 _ false (AE l) l.length).2 AT hs0 (Cx uO) hst λι1 a1 W1 t1 hs1 ht1 hv1 hd1 hk1 hkp1=>?_)
 simp only[Ex.to,Exit.then]
 obtain⟨x1,hx1⟩:=ht1.full _ (Ga hv1)
 refine wpIn_seq (D4 Bu hK Ed (Jp B0) Gb Sf OJ (l8 x1 false (AE l) (AW [] l.length) l.length).1 (l8 x1 false (AE l) (AW [] l.length) l.length).2 (AA (qW hm) AT) hs1 (Cx uO) hx1 λι2 a2 W2 t2 hs2 ht2 hv2 hd2 hk2 hkp2=>?_)
 simp only[Ex.to,Exit.then]
 obtain⟨x2,hx2⟩:=ht2.full _ (Ga hv2)
 refine wpIn_seq (wpIn_seq (D4 Bu hK Ed (Jp B0) Gb Sf OJ (l9 x2 false (AE l) (AW [] l.length) l.length).1 (l9 x2 false (AE l) (AW [] l.length) l.length).2 AT hs2 (Cx three) hx2 λι3 a3 W3 t3 hs3 ht3 hv3 hd3 hk3 hkp3=>?_))
 simp only[Ex.to,Exit.then]
 have hat3:=Ga hv3
 have h93:t3.at 9=Q3 4:=hat3 (9,Q3 4) (by simp)
 have h33:t3.at 3=BP 3 0:=hat3 (3,BP 3 0) (by simp)
 obtain⟨Lb,hLb,hfun⟩:=Q5 ht3 h93
 have hz3:(U7 false (AE l) (AW [] l.length) l.length).size=5:=by kernel_rfl
 have hG:∀s,(U7 false (AE l) (AW s l.length) l.length).get 0= .cells false gl/\(U7 false (AE l) (AW s l.length) l.length).get 1= .cells false (AE l)/\(U7 false (AE l) (AW s l.length) l.length).get 4= .cells true [A6 1 l.length]/\(U7 false (AE l) (AW s l.length) l.length).size=5:=λs=>⟨by kernel_rfl,by kernel_rfl,by kernel_rfl,by kernel_rfl⟩
 have hrel93:∀(s:List Nat) (W:World),Go.DI.St B0 w ι3 (U7 false (AE l) (AW s l.length) l.length) W->Rel B0 1 (i93 ι3 4) (Hn (AE l) l.length) W:=λs W h=>by
  obtain⟨g0,g1,g4,gz⟩:=hG s;exact bK h (by rw[gz];decide) (by rw[gz];decide) (by decide) g0 g1 g4
 have hi2:i93 ι3 4 2=some Lb:=by rw[Jq ι3 4 2 (by decide)];exact hLb
 refine wpIn_block (Nh (m0:=U7 false (AE l) (AW [] l.length) l.length) (ι:=ι3) hs3 (Ds:= []) (λD hD=>by simp at hD) (by decide) hfun (enters_of iU (by kernel_rfl) iV) (Jr (hrel93 [] W3 hs3) hi2 hS) (λh k=>bL h k) (λW k o o' _ hk hno' _=>bM W k o o' hk hno') (λx=>rfl)
  (λpre=>U7 false (AE l) (AW (pre.map Subtype.val) l.length) l.length) rfl (λpre b hb=>GU four b hb)
  (λx=>({tmps:=a3.tmps.setIfInBounds 10 (.int .i64 (x.1:Int)),defers:= []}:Act).put (some 4) (.int .i64 (x.1:Int))) ?_ ?_ (λpre W W' h _=>hrel93 _ W' h) ?_)
 ·intro k x W K' hK';rw[show Y8 3= #[aS]by kernel_rfl];refine Jg (op:=aS) (x:= .tmp 10) rfl rfl ?_;have ez:((#[10]:Array Tmp).zip (S2 l x)).foldl (λt (p,v)=>t.setIfInBounds p v) a3.tmps=a3.tmps.setIfInBounds 10 (.int .i64 (x.1:Int)):=by simp[S2]
  rw[ez]
  have:({tmps:=a3.tmps.setIfInBounds 10 (.int .i64 (x.1:Int)),defers:= []}:Act).eval (.tmp 10)= .int .i64 (x.1:Int):=by
   have h15:10<a3.tmps.size:=by rw[ht3.1];decide
   show(a3.tmps.setIfInBounds 10 (.int .i64 (x.1:Int))).getD 10 undef=_;rw[D9,if_pos ⟨rfl,h15⟩]
  rw[this];exact hK'
 ·intro k pre x W Q' hx' hst' hQ';have hp:x.1<l.length:=Iz x.2
  have ht4:Be ι3 15 ((t3.set 10 (.int .i64 (x.1:Int))).set 4 (.int .i64 (x.1:Int))) ((({tmps:=a3.tmps.setIfInBounds 10 (.int .i64 (x.1:Int)),defers:= []}:Act)).put (some 4) (.int .i64 (x.1:Int))):=
   Be.putD (n:=15) (dst:=some 4) (Be.setI (N:=15) ht3 (by decide) (.int _ _)) rfl (.int _ _)
  obtain⟨x4,hx4⟩:=ht4.full [(3,BP 3 0),(4, .int .i64 (x.1:Int))] (by
   intro q hq;simp only[List.mem_cons,List.not_mem_nil,or_false]at hq;rcases hq with rfl|rfl
   ·show(AF.set _ 4 _).at 3=_;rw[AF.at_set_ne _ (by decide)];exact(AF.at_set_ne _ (by decide) _).trans h33
   ·exact AF.at_set_same _ _ _)
  refine GO Bu hK Ed (Jp B0) Gb Sf OJ (by kernel_rfl) (lh x4 false (AE l) (AW (pre.map Subtype.val) l.length) (AW (pre.map Subtype.val++ [x.1]) l.length) l.length (x.1:Int)).1 (lh x4 false (AE l) (AW (pre.map Subtype.val) l.length) (AW (pre.map Subtype.val++ [x.1]) l.length) l.length (x.1:Int)).2
   (AA ⟨by omega,by omega⟩ (AA (qX hp) AT)) hst' (Cx four) hx4 hx' λι5 a5 W5 t5 hs5 ht5 hv5 hd5 hk5 hkp5=>?_
  have hι5:ι5=ι3:=by
   funext b;rcases Nat.lt_or_ge b 5 with h|h
   ·exact hk5 b h
   ·rw[hs5.fresh b h,hst'.fresh b h]
  subst hι5;refine hQ' a5 W5 hkp5 ?_;rw[List.map_append];exact hs5
 ·intro D xs W hD hxs hst' hmk;have hxs:xs.map Subtype.val=A5 l:=hxs;rw[hxs]at hst';simp only[Exit.inBlock,Exit.then];have ht5:Be ι3 15 t3 {a3 with defers:={target:= .collected D,args:= #[]}::a3.defers}:=ht3;obtain⟨x5,hx5⟩:=ht5.full [(3,BP 3 0)] (by intro q hq;obtain rfl:=List.mem_singleton.1 hq;exact h33);refine wpIn_seq (D4 Bu hK Ed (Jp B0) Gb Sf OJ (lj x5 false (AE l) (AW (A5 l) l.length) l.length).1 (lj x5 false (AE l) (AW (A5 l) l.length) l.length).2 AT hst' (Cx four) hx5 λι6 a6 W6 t6 hs6 ht6 hv6 hd6 hk6 hkp6=>?_);simp only[Ex.to,Exit.then];refine wpIn_ret ?_;have hd3':a3.defers= []:=by rw[hd3,hd2,hd1]
  have hmk6:=hmk.keeps hkp6 D (List.mem_cons_self ..);show LeavesInM Fence.wide 1 Tryz.prog Tryz.f69 a6.tmps _ a6.defers .returning W6;rw[hd6,hd3'];refine⟨by simp, .inl ⟨D,W6.putObj D (.deferred none),rfl,run_takeDeferred hmk6,_,results_tmp rfl _ _ _,?_⟩⟩
  have hs7:Go.DI.St B0 w ι6 (U7 false (AE l) (AW (A5 l) l.length) l.length) (W6.putObj D (.deferred none)):=hs6.grown (λb hb=>GU four b hb) (B:=w.heap.size) (Nat.le_refl _) (grownBy_putObj' W6 D _) (λr e=>by
   cases e;exact⟨Nat.le_trans hs3.below.size hD,_,hmk6,rfl⟩)
  have hv2:t6.at 2=YT l.length:=Ga hv6 (2,YT l.length) (by simp);have hret:=ht6.2 2;rw[hv2]at hret
  have hown2:∀L,ι6 2=some L->w.heap.size<=L.block:=λL hL=>hs7.own 2 L hL (by
   show((mS gl _).get 2).own=true;rw[Cw];rfl)
  obtain⟨u,hu⟩:∃u,a6.tmps.getD 2 undef=u:=⟨_,rfl⟩;rw[hu]at hret;obtain⟨W7,hW7⟩:∃W7,W6.putObj D (.deferred none)=W7:=⟨_,rfl⟩;rw[hW7]at hs7;have hb7:Below w.heap.size w W7:=hs7.below;have h2none:ι 2=none:=hf 2 (by show 2<=2;omega) (by show 2<3;omega)
  have hle:ι.le λb=>if b=2 then ι6 2 else ι b:=λb L hL=>by
   show(if b=2 then ι6 2 else ι b)=some L;rw[if_neg (by rintro rfl;rw[h2none]at hL;cases hL)];exact hL
  have hsame:∀b,b<2->(mS gl [.cells own (AE l), .cells true (AW (A5 l) l.length)]).get b=(mS gl [.cells own (AE l)]).get b:=λb hb=>by
   have:b=0\/b=1:=by omega
   rcases this with rfl|rfl
   ·rw[Cw,Cw];rfl
   ·rw[Cw,Cw];rfl
  have hg2:(mS gl [.cells own (AE l), .cells true (AW (A5 l) l.length)]).get 2= .cells true (AW (A5 l) l.length):=by kernel_rfl
  show∃v' ι',Ending.returned (a6.tmps.getD 2 undef)= .returned v'/\_;rw[hW7,hu];refine⟨u,λb=>if b=2 then ι6 2 else ι b,rfl,?_,⟨λb L hb hL=>?_,λb₁ b₂ L₁ L₂ b1 b2 e1 e2 l1 l2 g0 e=>?_,hs7.rel.floor,λg hg=>?_,EJ _⟩,⟨hle,λb hb=>?_,hb7.os,hb7.output,hb7.tape,hb7.size,λB hB _=>hb7.block B hB,λb L h1 h2 hL=>?_,by show 2<=3;omega,λb hb ho=>?_⟩⟩
  ·cases hret with
   |slc _ _ _ _ L hL=>exact .slc _ _ _ _ L (by show(if(2:Nat)=2 then ι6 2 else ι 2)=some L;rw[if_pos rfl];exact hL)
  ·have hb:b<3:=hb;have hL:(if b=2 then ι6 2 else ι b)=some L:=hL;by_cases h2:b=2
   ·subst h2;rw[if_pos rfl]at hL;rw[hg2];have:=hs7.rel.blk 2 L (by show 2<5;omega) hL;rw[show(U7 false (AE l) (AW (A5 l) l.length) l.length).get 2= .cells true (AW (A5 l) l.length)by kernel_rfl]at this;obtain⟨rc,e,fr,q1,q2,q3,q4,q5⟩:=this;refine⟨rc,e,fr,q1,q2,q3,λi v hv=>?_,q5⟩;obtain⟨v',z1,z2⟩:=q4 i v hv;refine⟨v',z1,?_⟩;obtain⟨k,_,rfl⟩:=List.mem_map.1 (List.mem_of_getElem? hv);exact De _ _ _ _ z2
   ·rw[if_neg h2]at hL;rw[hsame b (by omega)];have h:=hr.blk b L (by show b<2;omega) hL;exact h.monoL hle λhl=>hb7.block _ (h.lt hl)
  ·have b1:b₁<3:=b1;have b2:b₂<3:=b2;have e1:(if b₁=2 then ι6 2 else ι b₁)=some L₁:=e1;have e2:(if b₂=2 then ι6 2 else ι b₂)=some L₂:=e2
   have low:∀b L,b<2->ι b=some L->((mS gl [.cells own (AE l), .cells true (AW (A5 l) l.length)]).get b).live->L.block<w.heap.size:=λb L hb hL hl=>by
    rw[hsame b hb]at hl;exact(hr.blk b L (by show b<2;omega) hL).lt hl
   by_cases h1:b₁=2<;>by_cases h2:b₂=2
   ·rw[h1,h2]
   ·rw[if_pos h1]at e1;rw[if_neg h2]at e2;have:=hown2 L₁ e1;have:=low b₂ L₂ (by omega) e2 l2;omega
   ·rw[if_neg h1]at e1;rw[if_pos h2]at e2;have:=hown2 L₂ e2;have:=low b₁ L₁ (by omega) e1 l1;omega
   ·rw[if_neg h1]at e1;rw[if_neg h2]at e2;rw[hsame b₁ (by omega)]at l1;rw[hsame b₂ (by omega)]at l2;exact hr.inj _ _ _ _ (by show b₁<2;omega) (by show b₂<2;omega) e1 e2 l1 l2 g0 e
  ·obtain rfl:g=0:=by omega
   exact hr.glob 0 (by decide)
  ·show(if b=2 then ι6 2 else ι b)=ι b;have hb:b<2\/3<=b:=hb;rw[if_neg (by omega)]
  ·have h1:2<=b:=h1;have h2:b<3:=h2;obtain rfl:b=2:=by omega
   have hL:(if(2:Nat)=2 then ι6 2 else ι 2)=some L:=hL;rw[if_pos rfl]at hL;exact .inl (hown2 L hL)
  ·rw[hsame b hb]at ho;exact ho
noncomputable def wY:Code:=AM Tryz.f45
theorem wZ:Tryz.prog.funcs[45]?=some Tryz.f45:=by kernel_rfl
theorem wb:Tryz.f45.body=some wY:=by kernel_rfl
noncomputable def Hj(i:Nat):Array Oper:=IQ wY i
noncomputable def ky:Code:= .block 0 (.seq (.region 1 (Hj 1) false) (.cond (.tmp 16) (.seq (.region 2 (Hj 2) false) .ret) (.seq (.region 3 (Hj 3) false) (.cond (.tmp 21) (.seq (.region 4 (Hj 4) false) .ret) .skip))))
noncomputable def kz:Code:= .block 1 (.loop (.seq (.region 6 (Hj 6) false) (.seq (.cond (.tmp 36) .skip (.exit 1)) (.seq (.block 2 (.seq (.region 7 (Hj 7) false) (.seq (.region 8 (Hj 8) false) (.cond (.tmp 42) (.seq (.region 9 (Hj 9) false) .ret) .skip)))) (.region 10 (Hj 10) false)))))
noncomputable def bE:Code:= .block 4 (.seq (.region 14 (Hj 14) false) (.seq (.seq (.region 15 (Hj 15) false) (.cond (.tmp 56) (.seq (.region 16 (Hj 16) false) .ret) .skip)) (.region 17 (Hj 17) true)))
noncomputable def PO:Code:= .block 6 (.seq (.region 21 (Hj 21) false) (.seq (.seq (.region 22 (Hj 22) false) (.cond (.tmp 85) (.exit 6) .skip)) (.seq (.region 23 (Hj 23) false) (.seq (.region 24 (Hj 24) false) (.cond (.tmp 107) (.seq (.region 25 (Hj 25) false) .ret) .skip)))))
noncomputable def lA:Code:= .seq (.region 26 (Hj 26) false) (.cond (.tmp 114) (.seq (.region 27 (Hj 27) false) .ret) .skip)
theorem oH:wY= .seq (.region 0 (Hj 0) false) (.seq ky (.seq (.seq (.region 5 (Hj 5) false) kz) (.seq (.region 11 (Hj 11) false) (.seq (.seq (.region 12 (Hj 12) false) (.block 3 (.rangeFunc (.tmp 47) #[48] (.region 13 (Hj 13) false) bE)))
  (.seq (.region 18 (Hj 18) false) (.seq (.seq (.region 19 (Hj 19) false) (.block 5 (.rangeFunc (.tmp 67) #[68] (.region 20 (Hj 20) false) PO))) (.seq lA (.seq (.region 28 (Hj 28) false) .ret)))))))):=by kernel_rfl
noncomputable def Wv(c op z:Int)(wide reg:Bool):List Value:= [.int .i64 c, .int .i64 op, .int .i64 z, .bool wide, .bool reg]
noncomputable def SQ(w:List Value):Value:= .tuple ⟨[.agg ⟨w⟩, .int .i64 0]⟩
noncomputable def hC(w x:List Value)(y:List Value)(b6 b7:Bool)(own8:Bool)(ors:C1):H.Hint where
 ix t:=Nat.beq t 30||Nat.beq t 143
 ld k t _:=cond (Nat.beq t 110) (some (.agg ⟨x⟩)) (cond (Nat.beq t 4 && Nat.beq k 8) (some (.bool true)) none)
 cmp op t:=cond (Nat.beq t 3) (BinOp.rec (motive:=λ_=>Option Bool) none none none none none none none none none none none none none (cond own8 (some false) none) none (some false) (some false) op) none
 ap _:=none
 call f:=cond (Nat.beq f 68) (some (SQ w)) (cond (Nat.beq f 47) (some (SQ w)) (cond (Nat.beq f 48) (some undef) (cond (Nat.beq f 69) (some (.slice (some ⟨8,0,none⟩) y.length y.length)) none)))
 spec _ _ _ _:=False
 blk:=0
 specM f:=some λargs m v=>ors f args m=some (v,cond (Nat.beq f 69) (m.push (.cells true y)) m)
 eff f m:=cond (Nat.beq f 69) (m.push (.cells true y)) m
 cmpY op t v:=cond (Nat.beq t 3) (BinOp.rec (motive:=λ_=>Option Bool) none none none none none none none none none none none (match v with| .int _ n=>cond (Nat.beq n.toNat 0) (some false) none|_=>none) (match v with| .int _ n=>cond (Nat.beq n.toNat 6) (some b6) (cond (Nat.beq n.toNat 7) (some b7) none)|_=>none) none none none none op) none
noncomputable def uX(L:List Value):Mem:=mS gl [.cells false L]
noncomputable def MB(n:Nat):BI:= .cells true (IU (A6 1 n))
noncomputable def cI(z:Int):BI:= .cells true [.int .i64 z]
noncomputable def qp(L:List Value)(n:Nat):Mem:=mS gl [.cells false L,MB n,cI 0,cI 0]
noncomputable def yC(L:List Value)(n:Nat)(a c:Int):Mem:=mS gl [.cells false L,MB n,cI 0,cI 0,cI a,cI c]
noncomputable def Q2(L:List Value)(n:Nat)(a c:Int):Mem:=mS gl [.cells false L,MB n,cI 0,cI 0,cI a,cI c, .cells true [A6 1 n]]
noncomputable def we(L:List Value)(n:Nat)(a c:Int)(w:List Value):Mem:=mS gl [.cells false L,MB n,cI 0,cI 0,cI a,cI c, .cells true [A6 1 n], .cells true w]
noncomputable def oI(n:Nat):Value:= .slice (some ⟨8,0,none⟩) n n
noncomputable def yD(L:List Value)(n:Nat)(a c:Int)(y:List Value):Mem:=mS gl [.cells false L,MB n,cI 0,cI 0,cI a,cI c, .cells true [A6 1 n], .cells true y, .cells true [oI y.length]]
noncomputable def Kh(L:List Value)(n:Nat)(a c:Int)(y:List Value):Mem:=mS gl [.cells false L,MB n,cI 0,cI 0,cI a,cI c, .cells true [A6 1 n], .cells true y, .cells true [oI y.length], .cells true [A6 1 n]]
noncomputable def wg(L:List Value)(n:Nat)(a c:Int)(y w:List Value):Mem:=mS gl [.cells false L,MB n,cI 0,cI 0,cI a,cI c, .cells true [A6 1 n], .cells true y, .cells true [oI y.length], .cells true [A6 1 n], .cells true w]
noncomputable def oJ(ors:C1):H.Hint:=hC [] [] [] false false false ors
noncomputable def wh(n:Nat):Prop:=B6 Tryz.prog kp .eql 3 (.int .i64 (Int.ofNat n)) (.int .i64 0)=some (.bool false)
noncomputable def uY(n m:Int):Prop:=B6 Tryz.prog kp .gtr 3 (.int .i64 n) (.int .i64 m)=some (.bool false)
theorem sQ(x:Nat->Value)(ors:C1)(L:List Value)(n:Nat):Rn (LO (oJ ors) Tryz.prog kp (.region 0 (Hj 0) false) 116 [1,2,3] (AB 116 (up x [(0,Es (A6 1 n))])) (uX L)) ((.normal,[BP 2 0,BP 3 0,BP 4 0],qp L n),[]):=⟨by kernel_rfl,by kernel_rfl⟩
theorem lB(x:Nat->Value)(ors:C1)(L:List Value)(n:Nat):Rn (LO (oJ ors) Tryz.prog kp ky 116 [1,2,3] (AB 116 (up x [(1,BP 2 0),(2,BP 3 0),(3,BP 4 0)])) (qp L n)) ((.normal,[BP 2 0,BP 3 0,BP 4 0],qp L n),[wh n,uY (Int.ofNat n) 512,uY 0 4]):=⟨by kernel_rfl,by kernel_rfl⟩
theorem lC(x:Nat->Value)(ors:C1)(L:List Value)(n:Nat):Rn (LO (oJ ors) Tryz.prog kp (.seq (.region 5 (Hj 5) false) kz) 116 [1,2,3] (AB 116 (up x [(1,BP 2 0),(2,BP 3 0),(3,BP 4 0)])) (qp L n)) ((.normal,[BP 2 0,BP 3 0,BP 4 0],qp L n),[]):=⟨by kernel_rfl,by kernel_rfl⟩
theorem lD(x:Nat->Value)(ors:C1)(L:List Value)(n:Nat):Rn (LO (oJ ors) Tryz.prog kp (.region 11 (Hj 11) false) 116 [1,2,3,6,7] (AB 116 (up x [(1,BP 2 0),(2,BP 3 0),(3,BP 4 0)])) (qp L n)) ((.normal,[BP 2 0,BP 3 0,BP 4 0,BP 5 0,BP 6 0],yC L n 0 0),[]):=⟨by kernel_rfl,by kernel_rfl⟩
noncomputable def MC:List (Nat×Value):= [(1,BP 2 0),(2,BP 3 0),(3,BP 4 0),(6,BP 5 0),(7,BP 6 0)]
noncomputable def lE:List Value:= [BP 2 0,BP 3 0,BP 4 0,BP 5 0,BP 6 0]
theorem lF(x:Nat->Value)(ors:C1)(L:List Value)(n:Nat)(a c:Int):Rn (LO (oJ ors) Tryz.prog kp (.region 12 (Hj 12) false) 116 [1,2,3,6,7,47] (AB 116 (up x MC)) (yC L n a c)) ((.normal,lE++ [Q3 7],Q2 L n a c),[]):=⟨by kernel_rfl,by kernel_rfl⟩
theorem wi(x:Nat->Value)(ors:C1)(L:List Value)(n:Nat)(a c p cl op z:Int)(wide reg:Bool):Rn (LO (hC (Wv cl op z wide reg) [] [] false false false ors) Tryz.prog kp bE 116 [] (AB 116 (up x (MC++ [(8, .int .i64 p)]))) (Q2 L n a c)) ((.normal,[],we L n p cl (Wv cl op z wide reg)),[ors 68 [Es (A6 1 n), .int .i64 p] (Q2 L n a c)=some (SQ (Wv cl op z wide reg),Q2 L n a c)]):=⟨by kernel_rfl,by kernel_rfl⟩
theorem lG(x:Nat->Value)(ors:C1)(L y:List Value)(n:Nat)(a c:Int):Rn (LO (hC [] [] y false false false ors) Tryz.prog kp (.region 18 (Hj 18) false) 116 [1,2,3,6,7,11] (AB 116 (up x MC)) (Q2 L n a c)) ((.normal,lE++ [BP 9 0],yD L n a c y),[ors 69 [A6 1 n] (Q2 L n a c)=some (oI y.length,(Q2 L n a c).push (.cells true y))]):=⟨by kernel_rfl,by kernel_rfl⟩
theorem lH(x:Nat->Value)(ors:C1)(L y:List Value)(n:Nat)(a c:Int):Rn (LO (oJ ors) Tryz.prog kp (.region 19 (Hj 19) false) 116 [1,2,3,6,7,11,67] (AB 116 (up x (MC++ [(11,BP 9 0)]))) (yD L n a c y)) ((.normal,lE++ [BP 9 0,Q3 10],Kh L n a c y),[]):=⟨by kernel_rfl,by kernel_rfl⟩
noncomputable def dh(c k:Int)(b:Bool):Prop:=B6 Tryz.prog kp .neq 3 (.int .i64 c) (.int .i64 k)=some (.bool b)
theorem sR(x:Nat->Value)(ors:C1)(L X y:List Value)(n:Nat)(a c p cl op z:Int)(wide reg:Bool):Rn (LO (hC (Wv cl op z wide reg) X y true true true ors) Tryz.prog kp PO 116 [] (AB 116 (up x (MC++ [(11,BP 9 0),(12, .int .i64 p)]))) (Kh L n a c y)) ((.normal,[],wg L n a c y (Wv cl op z wide reg)),[IV p n,Jo L p X,ors 47 [.agg ⟨X⟩] (Kh L n a c y)=some (SQ (Wv cl op z wide reg),Kh L n a c y),dh cl 6 true,dh cl 7 true]):=⟨by kernel_rfl,by kernel_rfl⟩
theorem lI(x:Nat->Value)(ors:C1)(L y:List Value)(n:Nat)(a c:Int):Rn (LO (oJ ors) Tryz.prog kp (.region 28 (Hj 28) false) 116 [2,3] (AB 116 (up x MC)) (Kh L n a c y)) ((.normal,[BP 3 0,BP 4 0],Kh L n a c y),[]):=⟨by kernel_rfl,by kernel_rfl⟩
theorem sS(x:Nat->Value)(ors:C1)(L y:List Value)(n:Nat)(a:Int):Rn (LO (hC [] [] [] true true false ors) Tryz.prog kp lA 116 [1,2,3,6,7] (AB 116 (up x MC)) (Kh L n a 9 y)) ((.normal,lE,Kh L n a 9 y),[dh 9 7 true]):=⟨by kernel_rfl,by kernel_rfl⟩
noncomputable def Vp(p o:Int):Int:=IntKind.wrap .i64 (Int.add (IntKind.wrap .i64 (Int.add p 1)) (IntKind.wrap .i64 o))
noncomputable def uZ(t:Int):Prop:=B6 Tryz.prog kp .lss 3 (.int .i64 t) (.int .i64 0)=some (.bool false)
noncomputable def u0(t:Int)(n:Nat):Prop:=B6 Tryz.prog kp .geq 3 (.int .i64 t) (.int .i64 (Int.ofNat n))=some (.bool false)
noncomputable def qB(y:List Value)(t:Int):Prop:=H.ldOk (.cells true y) (Nat.add 0 (Nat.mul t.toNat 1)) false 1 (.bool true)
noncomputable def K6(i1 i2 i3 o i5:Int):List Value:= [.int .u8 i1, .int .u8 i2, .int .u8 i3, .int .i16 o, .int .i32 i5]
noncomputable def sT(L:List Value)(n:Nat)(a c:Int)(y w x:List Value):Mem:=mS gl [.cells false L,MB n,cI 0,cI 0,cI a,cI c, .cells true [A6 1 n], .cells true y, .cells true [oI y.length], .cells true [A6 1 n], .cells true w, .cells true x]
theorem sU(x:Nat->Value)(ors:C1)(L y:List Value)(n:Nat)(a c p cl op z i1 i2 i3 o i5:Int)(wide reg:Bool):Rn (LO (hC (Wv cl op z wide reg) (K6 i1 i2 i3 o i5) y false true true ors) Tryz.prog kp PO 116 [] (AB 116 (up x (MC++ [(11,BP 9 0),(12, .int .i64 p)]))) (Kh L n a c y)) ((.normal,[],sT L n a c y (Wv cl op z wide reg) (K6 i1 i2 i3 o i5)),[IV p n,Jo L p (K6 i1 i2 i3 o i5),ors 47 [.agg ⟨K6 i1 i2 i3 o i5⟩] (Kh L n a c y)=some (SQ (Wv cl op z wide reg),Kh L n a c y),dh cl 6 false,IV p n,Jo L p (K6 i1 i2 i3 o i5),uZ (Vp p o),u0 (Vp p o) y.length,IV (Vp p o) y.length,qB y (Vp p o)]):=⟨by kernel_rfl,by kernel_rfl⟩
theorem sV(x:Nat->Value)(ors:C1)(L y:List Value)(n:Nat)(a c p cl op z i1 i2 i3 o i5:Int)(wide reg:Bool):Rn (LO (hC (Wv cl op z wide reg) (K6 i1 i2 i3 o i5) y true false true ors) Tryz.prog kp PO 116 [] (AB 116 (up x (MC++ [(11,BP 9 0),(12, .int .i64 p)]))) (Kh L n a c y)) ((.normal,[],sT L n a c y (Wv cl op z wide reg) (K6 i1 i2 i3 o i5)),[IV p n,Jo L p (K6 i1 i2 i3 o i5),ors 47 [.agg ⟨K6 i1 i2 i3 o i5⟩] (Kh L n a c y)=some (SQ (Wv cl op z wide reg),Kh L n a c y),dh cl 6 true,dh cl 7 false,IV p n,Jo L p (K6 i1 i2 i3 o i5),uZ (Vp p o),u0 (Vp p o) y.length,IV (Vp p o) y.length,qB y (Vp p o)]):=⟨by kernel_rfl,by kernel_rfl⟩
open Classical in
noncomputable def qq(l:List B9):C1:=λf a M=>if f=69/\a= [A6 1 l.length]/\(∃own,M.get 1= .cells own (AE l))/\Fits gl [1] [M.get 1] M then some (.slice (some ⟨M.size,0,none⟩) l.length l.length,M.push (.cells true (AW (A5 l) l.length)))else none
theorem iT{l:List B9}{f:FuncId}(h:f≠69)(a:List Value)(M:Mem):qq l f a M=none:=if_neg λg=>h g.1
theorem UE{B0:Nat}{own:Bool}{l:List B9}(hS:DY l){M:Mem}(g1:M.get 1= .cells own (AE l))(hF:Fits gl [1] [M.get 1] M):
  EI Tryz.prog B0 1 69 [A6 1 l.length] M (.slice (some ⟨M.size,0,none⟩) l.length l.length) (M.push (.cells true (AW (A5 l) l.length))):=by
 have hcp:∀o:Bool,okB (.cells o (AE l))/\∀nb,seenB nb (.cells o (AE l)):=λo=>⟨λv hv=>F9 (List.all_eq_true.1 (BR l) v hv),λnb v hv=>Dv (List.all_eq_true.1 (BR l) v hv)⟩
 have h1:1<M.size:=hF.lt 1 (by simp)
 have r0:DV [1] M 0=0:=rfl
 have r1:DV [1] M 1=1:=rfl
 have r2:DV [1] M 2=M.size:=rfl
 have hA:∀i:Nat,Nat.blt i 2=true->i=0\/i=1:=λi hi=>by
  have:i<2:=by simpa[Nat.blt_eq]using hi
  omega
 obtain⟨ms,hms⟩:∃ms,mS gl [.cells own (AE l)]=ms:=⟨_,rfl⟩
 obtain⟨ms',hms'⟩:∃ms',mS gl [.cells own (AE l), .cells true (AW (A5 l) l.length)]=ms':=⟨_,rfl⟩
 have s1:ms.size=2:=by rw[←hms,K7];rfl
 have s2:ms'.size=3:=by rw[←hms',K7];rfl
 have k0:ms.get 0= .cells false gl:=by rw[←hms,Cw,if_pos (by decide),mG_get]
 have k1:ms.get 1= .cells own (AE l):=by rw[←hms,Cw];rfl
 have k0':ms'.get 0= .cells false gl:=by rw[←hms',Cw,if_pos (by decide),mG_get]
 have k1':ms'.get 1= .cells own (AE l):=by rw[←hms',Cw];rfl
 have k2':ms'.get 2= .cells true (AW (A5 l) l.length):=by rw[←hms',Cw];rfl
 have hsame:∀b,b<2->ms'.get b=ms.get b:=λb hb=>by
  have:b=0\/b=1:=by omega
  rcases this with rfl|rfl
  ·rw[k0,k0']
  ·rw[k1,k1']
 have hrun:=YC (B0:=B0) (own:=own) hS
 rw[hms,hms']at hrun
 refine aK (ρ:=DV [1] M) (A:=λi=>Nat.blt i 2) 1 (λg hg=>⟨hg,by
  obtain rfl:g=0:=by omega
  rfl,by
   obtain rfl:g=0:=by omega
   rfl⟩) hrun ⟨λi hi=>?_,⟨by omega,λ_=>by rw[←hms'];exact EJ _,λb hb hl=>?_,λb hb ho=>?_⟩,by rw[←hms];exact EJ _,KS hF.top,λi hi=>?_,λi j hi hj _ _ e=>?_,λi q1 q2=>?_,by show M.size+1=_;omega,λi hi=>?_,λi q1 q2=>?_,λb hb hne=>?_⟩ (.cons ?_ .nil) ?_
 ·rcases hA i hi with rfl|rfl<;>omega
 ·rw[hsame b (by omega)]at hl;exact hl
 ·rw[hsame b (by omega)]at ho;exact ho
 ·rcases hA i hi with rfl|rfl
  ·rw[r0];omega
  ·rw[r1];exact h1
 ·rcases hA i hi with rfl|rfl<;>rcases hA j hj with rfl|rfl
  ·rfl
  ·rw[r0,r1]at e;omega
  ·rw[r0,r1]at e;omega
  ·rfl
 ·obtain rfl:i=2:=by omega
  rw[r2];omega
 ·rcases hA i hi with rfl|rfl
  ·rw[k0,r0,hF.gl0];exact FG CO
  ·rw[k1,r1];have h2:=bsim_ren (ρ:=DV [1] M) (nb:=2) (hcp own).1 ((hcp own).2 2)
   have e:Gm (DV [1] M) (.cells own (AE l))=M.get 1:=by
    rw[g1];show BI.cells own _=_;rw[CZ (BR l)]
   rw[e]at h2;exact h2
 ·right;have:i=0\/i=1\/i=2:=by omega
  rcases this with rfl|rfl|rfl
  ·rw[k0',r0,Mem.get_push_ne _ (by omega),hF.gl0];exact Il CO
  ·rw[k1',r1,Mem.get_push_ne _ (by omega),g1];have h2:=Rd (ρ:=DV [1] M) (hcp own).1
   have e:Gm (DV [1] M) (.cells own (AE l))= .cells own (AE l):=by
    show BI.cells own _=_;rw[CZ (BR l)]
   rw[e]at h2;exact h2
  ·rw[k2',r2,Mem.get_push_same]
   exact Il λv hv=>by
    obtain⟨i,_,rfl⟩:=List.mem_map.1 hv;exact De _
 ·rw[Mem.get_push_ne _ (by omega)]
 ·exact EC (ρ:=DV [1] M) (i:=1) rfl
 ·show Rc _ (.slice (some ⟨2,0,none⟩) _ _) _;have:=VT (ρ:=DV [1] M) (i:=2) (o:=0) (n:=l.length) (c:=l.length);rw[r2]at this;exact this
theorem Vq{l:List B9}:B5 (qq l):=λf a M v M' h=>by
 unfold qq at h
 split at h
 case isFalse=>cases h
 rename_i hc
 simp only[Option.some.injEq,Prod.mk.injEq]at h
 obtain⟨rfl,rfl⟩:=h
 have ht:=hc.2.2.2.top
 refine⟨by show M.size<=M.size+1;omega,λ_=>KS ht,λb hb hl=>?_,λb hb ho=>?_⟩
 ·rw[Mem.get_push_ne _ (by omega)]at hl;exact hl
 ·rw[Mem.get_push_ne _ (by omega)]at ho;exact ho
theorem oK{l:List B9}(hS:DY l)(B0:Nat):CR Tryz.prog B0 1 (qq l):=by
 refine⟨λf a M v M' h=>(Vq f a M v M' h).size,λf a M v M' h=>?_,λf a M v M' h=>?_⟩
 all_goals
  unfold qq at h;split at h
  case isFalse=>cases h
  rename_i hc;obtain⟨rfl,rfl,⟨own,g1⟩,hF⟩:=hc;simp only[Option.some.injEq,Prod.mk.injEq]at h;obtain⟨rfl,rfl⟩:=h
 ·exact UE hS g1 hF
 ·exact hasB (by kernel_rfl)
noncomputable def oC(l:List B9):C1:=MA Q4 (qq l)
theorem FM{l:List B9}:B5 (oC l):=KU Gb Vq
theorem HP{l:List B9}(hS:DY l)(B0:Nat):CR Tryz.prog B0 1 (oC l):=MQ (Jp B0) (oK hS B0)
theorem oN{l:List B9}{f:FuncId}(h1:f≠47)(h2:f≠48)(h3:f≠68)(h4:f≠69)(a:List Value)(M:Mem):oC l f a M=none:=by
 unfold oC
 rw[Je (MU h1 h2 h3 a M),iT h4]
theorem HQ{l:List B9}{w x y:List Value}{b6 b7 o8:Bool}(f:FuncId)(v:Value)(args:List Value)(m:Mem)(hc:(hC w x y b6 b7 o8 (oC l)).call f=some v)(hs:(hC w x y b6 b7 o8 (oC l)).says f args m v):oC l f args m=some (v,(hC w x y b6 b7 o8 (oC l)).eff f m):=hs
theorem FN{l:List B9}{w x y:List Value}{b6 b7 o8:Bool}(f:FuncId)(hc:(hC w x y b6 b7 o8 (oC l)).call f=none)(a:List Value)(m:Mem):oC l f a m=none:=
 oN (by rintro rfl;cases hc) (by rintro rfl;cases hc) (by rintro rfl;cases hc) (by rintro rfl;cases hc) a m
end
end Go.Proofs.YtgjflcgmieiafaaGreatDoor
namespace Go.Proofs.YtgjflcgmieiafaaGreatDoor
open Go Go.DI Go.DI.Kit Go.Proofs Go.Cmp Go.RowKit
noncomputable section
def CW(op:Int):Int:=if op=149 then 9 else if op=5 then 7 else if op=24 then 10 else if op=53\/op=85\/op=165\/op=37\/op=173\/op=45 then 6 else if op=113\/op=105\/op=97\/op=121 then 3 else if op=215 then 2 else 1
def K8(l:List B9)(p:Nat):Int:=match l[p]? with|some x=>CW x.op|none=>0
theorem K9{l:List B9}{p:Nat}{x:B9}(h:l[p]?=some x):K8 l p=CW x.op:=by unfold K8;rw[h]
theorem lJ{x:B9}(h:Y4 x):∃op z w r,Form x (Wv (CW x.op) op z w r)/\CW x.op≠6/\CW x.op≠7:=by
 cases h with
 | @movI d n hd=>exact⟨11,0,true,false,by rw[show CW (DU 11 d n).op=1 by rfl];exact Vr hd,by rw[show CW (DU 11 d n).op=1 by rfl];decide,by rw[show CW (DU 11 d n).op=1 by rfl];decide⟩
 | @andI d n hd=>exact⟨5,0,true,false,by rw[show CW (DU 5 d n).op=1 by rfl];exact Vs hd,by rw[show CW (DU 5 d n).op=1 by rfl];decide,by rw[show CW (DU 5 d n).op=1 by rfl];decide⟩
 | @movR d s hd hs=>exact⟨11,0,true,true,by rw[show CW (Bj 11 d s).op=1 by rfl];exact Vt hd hs,by rw[show CW (Bj 11 d s).op=1 by rfl];decide,by rw[show CW (Bj 11 d s).op=1 by rfl];decide⟩
 | @andR d s hd hs=>exact⟨5,0,true,true,by rw[show CW (Bj 5 d s).op=1 by rfl];exact Vu hd hs,by rw[show CW (Bj 5 d s).op=1 by rfl];decide,by rw[show CW (Bj 5 d s).op=1 by rfl];decide⟩
 | @low n=>exact⟨11,0,false,false,by rw[show CW (HC n).op=1 by rfl];exact bF,by rw[show CW (HC n).op=1 by rfl];decide,by rw[show CW (HC n).op=1 by rfl];decide⟩
 |exit=>exact⟨0,0,false,false,by rw[show CW DS.op=9 by rfl];exact Vv,by rw[show CW DS.op=9 by rfl];decide,by rw[show CW DS.op=9 by rfl];decide⟩
 | @load z d s o hz hd hs=>
  rcases hz with rfl|rfl|rfl|rfl
  ·exact⟨0,1,false,false,by rw[show CW (BL 1 d s o).op=3 by rfl];exact SR hd hs,by rw[show CW (BL 1 d s o).op=3 by rfl];decide,by rw[show CW (BL 1 d s o).op=3 by rfl];decide⟩
  ·exact⟨0,2,false,false,by rw[show CW (BL 2 d s o).op=3 by rfl];exact SS hd hs,by rw[show CW (BL 2 d s o).op=3 by rfl];decide,by rw[show CW (BL 2 d s o).op=3 by rfl];decide⟩
  ·exact⟨0,4,false,false,by rw[show CW (BL 4 d s o).op=3 by rfl];exact SU hd hs,by rw[show CW (BL 4 d s o).op=3 by rfl];decide,by rw[show CW (BL 4 d s o).op=3 by rfl];decide⟩
  ·exact⟨0,8,false,false,by rw[show CW (BL 8 d s o).op=3 by rfl];exact SV hd hs,by rw[show CW (BL 8 d s o).op=3 by rfl];decide,by rw[show CW (BL 8 d s o).op=3 by rfl];decide⟩
 | @swap z hz hz1=>
  rcases hz with rfl|rfl|rfl|rfl
  ·omega
  ·exact⟨0,2,false,false,by rw[show CW (Ci 2).op=2 by rfl];exact SW,by rw[show CW (Ci 2).op=2 by rfl];decide,by rw[show CW (Ci 2).op=2 by rfl];decide⟩
  ·exact⟨0,4,false,false,by rw[show CW (Ci 4).op=2 by rfl];exact SX,by rw[show CW (Ci 4).op=2 by rfl];decide,by rw[show CW (Ci 4).op=2 by rfl];decide⟩
  ·exact⟨0,8,false,false,by rw[show CW (Ci 8).op=2 by rfl];exact SY,by rw[show CW (Ci 8).op=2 by rfl];decide,by rw[show CW (Ci 8).op=2 by rfl];decide⟩
theorem lK{x:B9}{o:Int}(h:na x):∃op z w r,Form (BJ x o) (Wv (CW (BJ x o).op) op z w r)/\(CW (BJ x o).op=6\/CW (BJ x o).op=7):=by
 cases h with
 | @jif op d n ho hd=>
  rcases ho with rfl|rfl|rfl|rfl
  ·exact⟨3,0,true,false,by rw[show CW (BJ (DO 3 d n) o).op=6 by rfl];exact Vw hd, .inl rfl⟩
  ·exact⟨5,0,true,false,by rw[show CW (BJ (DO 5 d n) o).op=6 by rfl];exact Vx hd, .inl rfl⟩
  ·exact⟨10,0,true,false,by rw[show CW (BJ (DO 10 d n) o).op=6 by rfl];exact SZ hd, .inl rfl⟩
  ·exact⟨2,0,true,false,by rw[show CW (BJ (DO 2 d n) o).op=6 by rfl];exact Vy hd, .inl rfl⟩
 | @jifR op ho=>
  rcases ho with rfl|rfl
  ·exact⟨10,0,true,true,by rw[show CW (BJ (Ey 10) o).op=6 by rfl];exact PQ, .inl rfl⟩
  ·exact⟨2,0,true,true,by rw[show CW (BJ (Ey 2) o).op=6 by rfl];exact S0, .inl rfl⟩
 |goto=>exact⟨0,0,false,false,by rw[show CW (BJ CC o).op=7 by rfl];exact Vz, .inr rfl⟩
theorem Ln{l:List B9}{p z:Nat}:∀(k q:Nat) (init:List Nat),Bn l k q=init++ [z]->p∈Bn l k q->p=z\/∃x,l[p]?=some x/\p+RH x∈Bn l k q
 |0,q,init,h,hp=>by simp[Bn]at hp
 |k+1,q,init,h,hp=>by
  simp only[Bn]at h hp ⊢;cases hx:l[q]? with
  |none=>rw[hx]at hp;simp at hp
  |some x=>
   rw[hx]at h hp;simp only at h hp ⊢;cases hr:Bn l k (q+RH x)with
   |nil=>
    rw[hr]at h hp;have:p=q:=by simpa using hp
    left;cases init with
    |nil=>simp at h;omega
    |cons a b=>simp at h
   |cons y rest=>
    have hy:y=q+RH x:=by
     cases k with
     |zero=>simp[Bn]at hr
     |succ k=>
      simp only[Bn]at hr;cases hx2:l[q+RH x]? with
      |none=>rw[hx2]at hr;simp at hr
      |some x2=>rw[hx2]at hr;simp at hr;exact hr.1.symm
    rcases List.mem_cons.1 hp with e|hp'
    ·subst e;exact .inr ⟨x,hx,by rw[hy];simp⟩
    ·cases init with
     |nil=>rw[hr]at h;simp at h
     |cons a b=>
      have h2:Bn l k (q+RH x)=b++ [z]:=by
       simp only[List.cons_append,List.cons.injEq]at h;exact h.2
      rcases Ln k (q+RH x) b h2 hp' with g|⟨x',g1,g2⟩
      ·exact .inl g
      ·exact .inr ⟨x',g1,by rw[←hr];exact List.mem_cons_of_mem _ g2⟩
theorem YD{l:List B9}(hS:DY l){p:Nat}{n:Int}(h:l[p]?=some (Bq n))(hp:p∈A5 l):p+2<l.length:=by
 obtain⟨init,z,h1,h2⟩:=hS.last
 rcases Ln l.length 0 init h1 hp with rfl|⟨x,hx,hm⟩
 ·rw[h2]at h;simp[DS,Bq]at h
 ·rw[h]at hx;cases hx;exact Iz hm
theorem oO{l:List B9}(hS:DY l){p:Nat}(hp:p∈A5 l):∃op z w r,PR false (AE l) l.length (p:Int) (Wv (K8 l p) op z w r):=by
 rcases hS.found p hp with⟨y,hy,h1⟩|⟨y,o,q,hq,hy,h1,_,_,_⟩|⟨n,h1,h2⟩
 ·obtain⟨op,z,w,r,hf,_,_⟩:=lJ hy;exact⟨op,z,w,r,by rw[K9 h1];exact hf.al false l p h1⟩
 ·obtain⟨op,z,w,r,hf,_⟩:=lK (o:=o) hy;exact⟨op,z,w,r,by rw[K9 h1];exact hf.al false l p h1⟩
 ·refine⟨0,0,false,false,?_⟩;rw[K9 h1,show CW (Bq n).op=10 by rfl];have:=hS.most;exact Nu.2.2 false l p h1 h2 (YD hS h1 hp) (by omega)
end
end Go.Proofs.YtgjflcgmieiafaaGreatDoor
