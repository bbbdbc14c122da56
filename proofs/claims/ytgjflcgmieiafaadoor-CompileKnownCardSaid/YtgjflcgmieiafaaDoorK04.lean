/- CompileKnown answers true: the document's examples of tables, their codes, sizes, faults and verdicts are as it says. Conditions: those of the given row and its card (the variable insn.sizes is laid as its initialiser says). -/
import Derived.Test.YtgjflcgmieiafaaDoorK03
import Derived.Test.YtgjflcgmieiafaaDoorK02
set_option linter.all false
set_option linter.unusedVariables false
set_option linter.unusedSimpArgs false
namespace Go.Proofs.YtgjflcgmieiafaaDoor
open Go Go.DI Go.DI.Kit Go.Proofs Go.Cmp
noncomputable section
theorem rS:Tryd.prog.funcs[16]?=some Tryd.f16:=by kernel_rfl
theorem rT:Tryd.f16.body=some (AN Tryd.f16):=by kernel_rfl
theorem rU:Tryd.f16.ntmps=133:=by kernel_rfl
theorem n21{a b c:Value}:max [a,b,c].length Tryd.f16.ntmps=133:=by rw[rU];rfl
theorem rV:IP Tryd.prog 16 Bl=true:=by kernel_rfl
theorem WI{α:Type}(cf:Y.CF α)(L:Y.LK α)(k:Nat)(t:AE)(m:Mem)(q:Y.ExK α):Y.codeF (Y.loopC E1 0) Tryd.prog kp 1 (Y.cfT Tryd.prog cf) L 133 k t m q=Y.opsF Ow Tryd.prog kp 1 (Y.cfT Tryd.prog cf) 133 Ow t m λt m=>q .normal t m:=by kernel_rfl
theorem WJ{α:Type}(cf:Y.CF α)(L:Y.LK α)(k:Nat)(t:AE)(m:Mem)(q:Y.ExK α):Y.codeF (Y.loopC E1 1) Tryd.prog kp 1 (Y.cfT Tryd.prog cf) L 133 k t m q=Y.opsF Ox Tryd.prog kp 1 (Y.cfT Tryd.prog cf) 133 Ox t m λt m=>q .normal t m:=by kernel_rfl
theorem WK{α:Type}(cf:Y.CF α)(L:Y.LK α)(k:Nat)(t:AE)(m:Mem)(q:Y.ExK α):Y.codeF (Y.loopC E1 2) Tryd.prog kp 1 (Y.cfT Tryd.prog cf) L 133 k t m q=Y.opsF Oy Tryd.prog kp 1 (Y.cfT Tryd.prog cf) 133 Oy t m λt m=>q .normal t m:=by kernel_rfl
theorem WL{α:Type}(cf:Y.CF α)(L:Y.LK α)(k:Nat)(t:AE)(m:Mem)(q:Y.ExK α):Y.codeF (Y.loopC E1 3) Tryd.prog kp 1 (Y.cfT Tryd.prog cf) L 133 k t m q=Y.opsF Oz Tryd.prog kp 1 (Y.cfT Tryd.prog cf) 133 Oz t m λt m=>q .normal t m:=by kernel_rfl
structure FP(t:A7):Prop where
 kind:t.kind=1\/t.kind=2\/t.kind=3\/t.kind=4
 pos:BS t=true->0<=t.pos/\t.pos<=255
 size:BS t=true->Vc t.size
 mask:0<=t.mask/\t.mask<18446744073709551616
 lo:0<=t.lo/\t.lo<18446744073709551616
 hi:0<=t.hi/\t.hi<18446744073709551616
def SQ(t:A7):Int:=if BS t=true then BX t.size else 0
abbrev kt(o:DT)(k j:Nat)(fr:AE)(M:Mem):Option (Value×Mem):=
 Y.kont Tryd.prog kp 1 (Y.cfT Tryd.prog (Y.cfOf (AL Tryd.prog kp 1 o k))) (GR (Y.lpOf Tryd.prog kp 1 (AL Tryd.prog kp 1 o k) 133)) 133 k E1 j (Y.retF Tryd.prog Tryd.f16 λv m=>some (v,m)) .normal fr M
section
variable{K:CU}{mp:Nat}{rows:List A9}{AJ:List (Nat×Nat)}{fr:Nat->Prop}{M:Mem}
variable{o:DT}{k:Nat}
theorem St.lab0(h:St K mp rows AJ fr M){l:Nat}(hl:fr l):St K mp (rows++ [lab l]) AJ (λj=>fr j/\j≠l) M:=by
 obtain⟨f,h⟩:=h
 obtain⟨g0,g1,g2,g3⟩:=h.free l hl
 refine⟨f,?_,h.glob,h.pos,h.nod,λj hj=>?_,λj q hq=>?_,λr hr h0=>?_⟩
 ·have e1:AJ.map (Oq (rows++ [lab l]))=AJ.map (Oq rows):=by
   refine List.map_congr_left λy hy=>?_;simp only[Oq,JT rows g0,KE rows _ g0];rw[if_neg (g2 y hy)]
  rw[e1,Nm f rows g0];exact h.hp
 ·obtain⟨i0,i1,i2,i3⟩:=h.free j hj.1;refine⟨i0,i1,i2,λr hr=>?_⟩;rcases List.mem_append.1 hr with hr|hr
  ·exact i3 r hr
  ·obtain rfl:=List.mem_singleton.1 hr;exact⟨by show 0≠j;omega,λe=>hj.2 e.symm⟩
 ·rw[JT rows g0,if_neg (by rintro rfl;rw[g1]at hq;cases hq)];exact h.sett j q hq
 ·rcases List.mem_append.1 hr with hr|hr
  ·exact h.known r hr h0
  ·obtain rfl:=List.mem_singleton.1 hr;exact absurd h0 (Nat.lt_irrefl 0)
section
variable{t:A7}{lp lf ol tb n:Nat}{tp:Int}
theorem dQ(hO:GX o)(hk:100000+50<=k)(htb:K tb=some (.cells true (AR t)))(hlp:(lp,lf)∈AJ)(hl:rows.length+20<=100000)(hg:fr (n+2))(h:St K mp rows ((ol,n+1)::AJ) fr M):
  ∃M',(∀(tp:Int) (x:Nat->Value),kt o k 3 (AA 133 (up x [(0, .pointer (some ⟨mp,0,none⟩)),(2, .pointer (some ⟨lp,0,none⟩)),(4, .pointer (some ⟨tb,0,none⟩)),(6, .pointer (some ⟨ol,0,none⟩)),(7, .int .u64 tp),(105, .bool t.neg)])) M=some (Bl,M'))/\St K mp (rows++Cmp.endS t (n+1) (n+2) lf) AJ (λj=>fr j/\j≠n+2) M':=by
 by_cases hn:t.neg=true
 ·obtain⟨M1,c1,h1⟩:=G1 (k:=k) hO (by omega) (by omega) h;obtain⟨M2,c2,h2⟩:=JR (k:=k) hO (by omega) (by simp[AZ];omega) (List.mem_cons_of_mem _ hlp) h1;obtain⟨M3,c3,M4,c4,h4⟩:=LN (k:=k) hO (by omega) (by simp[AZ];omega) h2;have h5:=h4.lab0 hg;refine⟨M4,λtp x=>?_,by rw[Cmp.endS,if_pos hn];simpa only[List.append_assoc,List.cons_append,List.nil_append]using h5⟩;refine Eq.trans (YN ..) ?_;rw[hn,AG];refine step c1 ?_;refine step c2 ?_;refine step c3 ?_;refine step c4 ?_;rfl
 ·have h0:=h.label hg;obtain⟨M1,c1,h1⟩:=JR (k:=k) hO (by omega) (by omega) (List.mem_cons_self ..) h0;have h1:=h1.perm (List.Perm.swap _ _ _);have hb:=h1.box (.cells true [ptr ol]);obtain⟨M2,c2,h2⟩:=LO (k:=k) (hO.off 18 (by decide)) (by omega) (by simp;omega) hb.1 (BQ ..);have h2:=h2.weak h.glb hb.2;obtain⟨M3,c3,h3⟩:=G1 (k:=k) hO (by omega) (by simp;omega) h2;obtain⟨M4,c4,h4⟩:=JR (k:=k) hO (by omega) (by simp[AZ];omega) (List.mem_cons_of_mem _ (List.mem_cons_of_mem _ hlp)) h3;have h4:=h4.perm (List.Perm.swap _ _ _);have hb4:=h4.box (.cells true [ptr M.size]);obtain⟨M5,c5,h5⟩:=LO (k:=k) (hO.off 18 (by decide)) (by omega) (by simp[AZ];omega) hb4.1 (BQ ..);have h5:=(h5.weak h.glb hb4.2).perm (List.Perm.swap _ _ _);have hb5:=h5.box (.cells true [ptr ol,ptr M.size]);obtain⟨M6,c6,h6⟩:=KB (k:=k) (ps:= [(ol,n+1),(M.size,n+2)]) (hO.off 19 (by decide)) (by simp[AZ];omega) (by omega) (by simp) (BQ ..) hb5.1;have h6:=h6.weak h.glb hb5.2;refine⟨M6,λtp x=>?_,by rw[Cmp.endS,if_neg hn];simpa only[List.append_assoc,List.cons_append,List.nil_append]using h6⟩;refine Eq.trans (YN ..) ?_;rw[Bool.eq_false_iff.2 hn,BH];refine step c1 ?_;refine step c2 ?_;refine step c3 ?_;refine step c4 ?_;refine step c5 ?_;refine step c6 ?_;rfl
def XY(t:A7)(out:Nat):List A9:=if BS t=false\/t.hi≠BX t.size then D6 2 t.hi out else []
def bK(t:A7)(out:Nat):List A9:=if 0<t.lo then D6 10 t.lo out else []
theorem QQ(op n:Int)(out:Nat):(D6 op n out).length<=3:=by unfold D6;split<;>simp
theorem UU(t:A7)(out:Nat):(XY t out).length<=3:=by
 have:=QQ 2 t.hi out
 unfold XY;split<;>simp;omega
theorem UW(t:A7)(out:Nat):(bK t out).length<=3:=by
 have:=QQ 10 t.lo out
 unfold bK;split<;>simp;omega
abbrev ml(o:DT)(k j:Nat)(fr:AE)(M:Mem):Option (Value×Mem):=
 GR (Y.lpOf Tryd.prog kp 1 (AL Tryd.prog kp 1 o k) 133) (λt m q=>Y.codeF (Y.loopC E1 j) Tryd.prog kp 1 (Y.cfT Tryd.prog (Y.cfOf (AL Tryd.prog kp 1 o k))) (GR (Y.lpOf Tryd.prog kp 1 (AL Tryd.prog kp 1 o k) 133)) 133 k t m q) (Y.loopC E1 j) k fr M
  (Y.kont Tryd.prog kp 1 (Y.cfT Tryd.prog (Y.cfOf (AL Tryd.prog kp 1 o k))) (GR (Y.lpOf Tryd.prog kp 1 (AL Tryd.prog kp 1 o k) 133)) 133 k E1 j (Y.retF Tryd.prog Tryd.f16 λv m=>some (v,m)))
theorem QR(hO:GX o)(hk:100000+50<=k)(htb:K tb=some (.cells true (AR t)))(hlp:(lp,lf)∈AJ)(hl:rows.length+20<=100000)(hg:fr (n+2))(h:St K mp rows ((ol,n+1)::AJ) fr M):
  ∃M',(∀(tp:Int) (x:Nat->Value),ml o k 3 (AA 133 (up x [(0, .pointer (some ⟨mp,0,none⟩)),(2, .pointer (some ⟨lp,0,none⟩)),(4, .pointer (some ⟨tb,0,none⟩)),(6, .pointer (some ⟨ol,0,none⟩)),(7, .int .u64 tp)])) M=some (Bl,M'))/\St K mp (rows++Cmp.endS t (n+1) (n+2) lf) AJ (λj=>fr j/\j≠n+2) M':=by
 have gb:=h.get htb
 obtain⟨M',c,h'⟩:=dQ hO hk htb hlp hl hg h
 refine⟨M',λtp x=>?_,h'⟩
 refine Eq.trans (BP _ _ _ (by kernel_rfl) _ _ _ _) ?_
 refine Eq.trans (WL ..) ?_
 refine Eq.trans (dR ..) ?_
 rw[gb,AT,show Y.nthL (AR t) 0=some (.bool t.neg)from rfl,BM,HS]
 exact c ..
theorem dT(hO:GX o)(hk:100000+50<=k)(htb:K tb=some (.cells true (AR t)))(hlp:(lp,lf)∈AJ)(ht:FP t)(hl:rows.length+30<=100000)(hg:fr (n+2))(h:St K mp rows ((ol,n+1)::AJ) fr M):
  ∃M',(∀(tp:Int) (x:Nat->Value),kt o k 2 (AA 133 (up x [(0, .pointer (some ⟨mp,0,none⟩)),(2, .pointer (some ⟨lp,0,none⟩)),(4, .pointer (some ⟨tb,0,none⟩)),(6, .pointer (some ⟨ol,0,none⟩)),(7, .int .u64 tp),(99, .bool (decide (BS t=false\/t.hi≠BX t.size)))])) M=some (Bl,M'))/\St K mp (rows++(XY t (n+1)++Cmp.endS t (n+1) (n+2) lf)) AJ (λj=>fr j/\j≠n+2) M':=by
 have gb:=h.get htb
 have h3:=UU t (n+1)
 by_cases hc:BS t=false\/t.hi≠BX t.size
 ·obtain⟨M1,c1,h1⟩:=UP (k:=k) (op:=2) (n:=t.hi) hO (by omega) (by omega) (by simp) ht.hi.1 ht.hi.2 (List.mem_cons_self ..) h;have e:XY t (n+1)=D6 2 t.hi (n+1):=if_pos hc;rw[←e]at h1;obtain⟨M2,c2,h2⟩:=QR hO hk htb hlp (by rw[List.length_append];omega) hg h1;refine⟨M2,λtp x=>?_,by rw[←List.append_assoc];exact h2⟩;refine Eq.trans (YO ..) ?_;rw[decide_eq_true hc,AG,gb,AT,show Y.nthL (AR t) 6=some (.int .u64 t.hi)from rfl,BM,BD,Bt,AG];refine step c1 ?_;exact c2 ..
 ·obtain⟨M2,c2,h2⟩:=QR hO hk htb hlp (by omega) hg h;have e:XY t (n+1)= []:=if_neg hc;refine⟨M2,λtp x=>?_,by rw[e,List.nil_append];exact h2⟩;refine Eq.trans (YO ..) ?_;rw[decide_eq_false hc,BH];exact c2 ..
theorem QS(hO:GX o)(hk:100000+50<=k)(htb:K tb=some (.cells true (AR t)))(hlp:(lp,lf)∈AJ)(ht:FP t)(hl:rows.length+30<=100000)(hg:fr (n+2))(h:St K mp rows ((ol,n+1)::AJ) fr M):
  ∃M',(∀(x:Nat->Value),ml o k 2 (AA 133 (up x [(0, .pointer (some ⟨mp,0,none⟩)),(2, .pointer (some ⟨lp,0,none⟩)),(4, .pointer (some ⟨tb,0,none⟩)),(6, .pointer (some ⟨ol,0,none⟩)),(7, .int .u64 (SQ t))])) M=some (Bl,M'))/\St K mp (rows++(XY t (n+1)++Cmp.endS t (n+1) (n+2) lf)) AJ (λj=>fr j/\j≠n+2) M':=by
 have gb:=h.get htb
 obtain⟨M',c,h'⟩:=dT hO hk htb hlp ht hl hg h
 refine⟨M',λx=>?_,h'⟩
 refine Eq.trans (BP _ _ _ (by kernel_rfl) _ _ _ _) ?_
 refine Eq.trans (WK ..) ?_
 refine Eq.trans (dU ..) ?_
 rw[gb,AT,show Y.nthL (AR t) 1=some (.int .i64 t.kind)from rfl,BM,BD,Bt,AG]
 by_cases h1:t.kind=1
 ·have e:decide (BS t=false\/t.hi≠BX t.size)=true:=by simp[BS,h1]
  rw[e]at c;rw[Bf h1,AG];exact c ..
 ·rw[Bi h1,BH,AT,show Y.nthL (AR t) 1=some (.int .i64 t.kind)from rfl,BM,BD,Bt,AG];by_cases h2:t.kind=2
  ·have e:decide (BS t=false\/t.hi≠BX t.size)=true:=by simp[BS,h2]
   rw[e]at c;rw[Bf h2,AG];exact c ..
  ·have hb:BS t=true:=by
    rcases ht.kind with e|e|e|e
    ·exact absurd e h1
    ·exact absurd e h2
    ·simp[BS,e]
    ·simp[BS,e]
   have et:SQ t=BX t.size:=if_pos hb;rw[Bi h2,BH,AT,show Y.nthL (AR t) 6=some (.int .u64 t.hi)from rfl,BM,BD,Bt,AG,GQ,et];by_cases h3:t.hi=BX t.size
   ·have e:decide (BS t=false\/t.hi≠BX t.size)=false:=by simp[hb,h3]
    rw[e]at c;rw[Bf h3,AG];exact c ..
   ·have e:decide (BS t=false\/t.hi≠BX t.size)=true:=by simp[h3]
    rw[e]at c;rw[Bi h3,BH];exact c ..
theorem dV(hO:GX o)(hk:100000+50<=k)(htb:K tb=some (.cells true (AR t)))(hlp:(lp,lf)∈AJ)(ht:FP t)(hl:rows.length+40<=100000)(hg:fr (n+2))(h:St K mp rows ((ol,n+1)::AJ) fr M):
  ∃M',(∀(x:Nat->Value),kt o k 1 (AA 133 (up x [(0, .pointer (some ⟨mp,0,none⟩)),(2, .pointer (some ⟨lp,0,none⟩)),(4, .pointer (some ⟨tb,0,none⟩)),(6, .pointer (some ⟨ol,0,none⟩)),(7, .int .u64 (SQ t)),(81, .bool (decide (0<t.lo)))])) M=some (Bl,M'))/\St K mp (rows++(bK t (n+1)++(XY t (n+1)++Cmp.endS t (n+1) (n+2) lf))) AJ (λj=>fr j/\j≠n+2) M':=by
 have gb:=h.get htb
 have h3:=UW t (n+1)
 by_cases hc:0<t.lo
 ·obtain⟨M1,c1,h1⟩:=UP (k:=k) (op:=10) (n:=t.lo) hO (by omega) (by omega) (by simp) ht.lo.1 ht.lo.2 (List.mem_cons_self ..) h;have e:bK t (n+1)=D6 10 t.lo (n+1):=if_pos hc;rw[←e]at h1;obtain⟨M2,c2,h2⟩:=QS hO hk htb hlp ht (by rw[List.length_append];omega) hg h1;refine⟨M2,λx=>?_,by rw[←List.append_assoc];exact h2⟩;refine Eq.trans (YP ..) ?_;rw[decide_eq_true hc,AG,gb,AT,show Y.nthL (AR t) 5=some (.int .u64 t.lo)from rfl,BM,BD,Bt,AG];refine step c1 ?_;exact c2 ..
 ·obtain⟨M2,c2,h2⟩:=QS hO hk htb hlp ht (by omega) hg h;have e:bK t (n+1)= []:=if_neg hc;refine⟨M2,λx=>?_,by rw[e,List.nil_append];exact h2⟩;refine Eq.trans (YP ..) ?_;rw[decide_eq_false hc,BH];exact c2 ..
theorem Ln(hO:GX o)(hk:100000+50<=k)(htb:K tb=some (.cells true (AR t)))(hlp:(lp,lf)∈AJ)(ht:FP t)(hl:rows.length+40<=100000)(hg:fr (n+2))(h:St K mp rows ((ol,n+1)::AJ) fr M):
  ∃M',(∀(x:Nat->Value),ml o k 1 (AA 133 (up x [(0, .pointer (some ⟨mp,0,none⟩)),(2, .pointer (some ⟨lp,0,none⟩)),(4, .pointer (some ⟨tb,0,none⟩)),(6, .pointer (some ⟨ol,0,none⟩)),(7, .int .u64 (SQ t))])) M=some (Bl,M'))/\St K mp (rows++(bK t (n+1)++(XY t (n+1)++Cmp.endS t (n+1) (n+2) lf))) AJ (λj=>fr j/\j≠n+2) M':=by
 have gb:=h.get htb
 obtain⟨M',c,h'⟩:=dV hO hk htb hlp ht hl hg h
 refine⟨M',λx=>?_,h'⟩
 refine Eq.trans (BP _ _ _ (by kernel_rfl) _ _ _ _) ?_
 refine Eq.trans (WJ ..) ?_
 refine Eq.trans (dW ..) ?_
 rw[gb,AT,show Y.nthL (AR t) 5=some (.int .u64 t.lo)from rfl,BM,BD,Bt,AG,GQ]
 have h0:=ht.lo.1
 by_cases h1:t.lo=0
 ·rw[decide_eq_false (by omega)]at c;rw[Bf h1,AG];exact c ..
 ·rw[decide_eq_true (by omega)]at c;rw[Bi h1,BH];exact c ..
theorem WM(t:A7):(D9 t).length<=4:=by unfold D9;(repeat' split)<;>simp
theorem dY(hO:GX o)(hk:100000+50<=k)(htb:K tb=some (.cells true (AR t)))(hlp:(lp,lf)∈AJ)(ht:FP t)(hl:rows.length+50<=100000)(hg:fr (n+2))(h:St K mp rows ((ol,n+1)::AJ) fr M):
  ∃M',(∀(x:Nat->Value),kt o k 0 (AA 133 (up x [(0, .pointer (some ⟨mp,0,none⟩)),(2, .pointer (some ⟨lp,0,none⟩)),(4, .pointer (some ⟨tb,0,none⟩)),(6, .pointer (some ⟨ol,0,none⟩)),(7, .int .u64 0),(46, .bool (BS t))])) M=some (Bl,M'))/\St K mp (rows++(D9 t++(bK t (n+1)++(XY t (n+1)++Cmp.endS t (n+1) (n+2) lf)))) AJ (λj=>fr j/\j≠n+2) M':=by
 have gb:=h.get htb
 cases hb:BS t with
 |false=>
  have e:D9 t= []:=by unfold D9;rw[hb];rfl
  have et:SQ t=0:=by unfold SQ;rw[hb];rfl
  obtain⟨M2,c2,h2⟩:=Ln hO hk htb hlp ht (by omega) hg h;rw[et]at c2;refine⟨M2,λx=>?_,by rw[e,List.nil_append];exact h2⟩;refine Eq.trans (SR ..) ?_;rw[BH];exact c2 ..
 |true=>
  have hz:=ht.size hb;have et:SQ t=BX t.size:=if_pos hb;obtain⟨M1,c1,x1⟩:=hO.most hz k M (by omega) h.top (by have:=h.lt h.glb;omega) (h.get h.glb);have h1:=h.ext x1;have g1:=h1.get htb;obtain⟨sw,hsw⟩:∃sw:List A9,sw=if 1<t.size then [ins (C0 t.size) 0]else []:=⟨_,rfl⟩;obtain⟨mk,hmk⟩:∃mk:List A9,mk=if t.mask=BX t.size then []else if t.mask<2147483648 then [ins (DE 5 2 t.mask) 0]else [ins (Bj t.mask) 0,ins (Cp t.mask) 0,ins (Ba 5 2 3) 0]:=⟨_,rfl⟩;have e:D9 t=sw++mk:=by unfold D9;rw[if_pos hb,hsw,hmk]
  have hsl:sw.length<=1:=by rw[hsw];split<;>simp
  have tail:∀{rows:List A9} {M1:Mem},rows.length+45<=100000->St K mp rows ((ol,n+1)::AJ) fr M1->∃M2,(t.mask=BX t.size->M2=M1)/\(t.mask≠BX t.size->∃M3,AL Tryd.prog kp 1 o k 31 [.int .u64 t.mask] M1=some (.bool (decide (t.mask<2147483648)),M3)/\M3.get tb= .cells true (AR t)/\
    (t.mask<2147483648->AL Tryd.prog kp 1 o k 26 [ptr mp, .int .i64 5, .int .u8 2, .int .i32 t.mask] M3=some (Bl,M2))/\
    (¬t.mask<2147483648->∃M4,AL Tryd.prog kp 1 o k 32 [ptr mp, .int .u8 3, .int .u64 t.mask] M3=some (Bl,M4)/\AL Tryd.prog kp 1 o k 12 [ptr mp, .int .i64 5, .int .u8 2, .int .u8 3] M4=some (Bl,M2)))/\
    St K mp (rows++mk) ((ol,n+1)::AJ) fr M2:=by
   intro rows M1 hl h1;by_cases hm:t.mask=BX t.size
   ·exact⟨M1,λ_=>rfl,λhn=>absurd hm hn,by rw[hmk,if_pos hm,List.append_nil];exact h1⟩
   ·obtain⟨M3,c3,x3⟩:=hO.small t.mask k M1 (by omega) h1.top (by have:=h1.lt h1.glb;omega) (h1.get h1.glb);have h3:=h1.ext x3;by_cases hs:t.mask<2147483648
    ·obtain⟨M2,c2,h2⟩:=Om (k:=k) (op:=5) (d:=2) (n:=t.mask) hO (by omega) (by omega) (by simp) h3;exact⟨M2,λhn=>absurd hn hm,λ_=>⟨M3,c3,h3.get htb,λ_=>c2,λhn=>absurd hs hn⟩,by rw[hmk,if_neg hm,if_pos hs];exact h2⟩
    ·obtain⟨M4,c4,h4⟩:=QF (k:=k - 2) (d:=3) (n:=t.mask) (hO.off 25 (by decide)) (hO.off 32 (by decide)) (by omega) h3 (hO.makes (by omega) Kg.const);rw[show k - 2+2=k by omega]at c4;obtain⟨M2,c2,h2⟩:=Oa (k:=k) (op:=5) (d:=2) (s:=3) hO (by omega) (by simp;omega) (by simp) h4;refine⟨M2,λhn=>absurd hn hm,λ_=>⟨M3,c3,h3.get htb,λhn=>absurd hn hs,λ_=>⟨M4,c4,c2⟩⟩,?_⟩;rw[hmk,if_neg hm,if_neg hs];rw[List.append_assoc,SJ,YB ht.mask.1 ht.mask.2]at h2;exact h2
  by_cases hs:1<t.size
  ·have hz2:t.size=2\/t.size=4\/t.size=8:=by rcases hz with e|e|e|e<;>omega
   obtain⟨M2,c2,h2⟩:=KD (k:=k) hO (by omega) (by omega) (Kg.swap hz2) h1;have g2:=h2.get htb;have hsw:sw= [ins (C0 t.size) 0]:=by rw[hsw,if_pos hs]
   rw[←hsw]at h2;obtain⟨M5,q1,q2,h5⟩:=tail (by rw[List.length_append];omega) h2;have hml:mk.length<=3:=by rw[hmk];(repeat' split)<;>simp
   obtain⟨M6,c6,h6⟩:=Ln hO hk htb hlp ht (by rw[List.length_append,List.length_append];omega) hg h5;rw[et]at c6;refine⟨M6,λx=>?_,by rw[e];simpa only[List.append_assoc]using h6⟩;refine Eq.trans (SR ..) ?_;rw[AG,gb,AT,show Y.nthL (AR t) 3=some (.int .i64 t.size)from rfl,BM,BD,Bt,AG];refine step c1 ?_;rw[BD,Bt,AG,g1,AT,show Y.nthL (AR t) 3=some (.int .i64 t.size)from rfl,BM,BD,Bt,AG,Ee hs,AG,AT,show Y.nthL (AR t) 3=some (.int .i64 t.size)from rfl,BM,BD,Bt,AG];refine step c2 ?_;rw[g2,AT,show Y.nthL (AR t) 4=some (.int .u64 t.mask)from rfl,BM,BD,Bt,AG];by_cases hm:t.mask=BX t.size
   ·obtain rfl:=q1 hm;rw[Bf hm,AG];exact c6 ..
   ·obtain⟨M3,c3,g3,q3,q4⟩:=q2 hm;rw[Bi hm,BH,AT,show Y.nthL (AR t) 4=some (.int .u64 t.mask)from rfl,BM,BD,Bt,AG];refine step c3 ?_;rw[HS];by_cases hs2:t.mask<2147483648
    ·rw[decide_eq_true hs2,AG,g3,AT,show Y.nthL (AR t) 4=some (.int .u64 t.mask)from rfl,BM,BD,Bt,AG,Hq ht.mask.1 hs2];refine step (q3 hs2) ?_;exact c6 ..
    ·obtain⟨M4,c4,c5⟩:=q4 hs2;rw[decide_eq_false hs2,BH,g3,AT,show Y.nthL (AR t) 4=some (.int .u64 t.mask)from rfl,BM,BD,Bt,AG];refine step c4 ?_;refine step c5 ?_;exact c6 ..
  ·have hsw:sw= []:=by rw[hsw,if_neg hs]
   obtain⟨M5,q1,q2,h5⟩:=tail (by omega) h1;have hml:mk.length<=3:=by rw[hmk];(repeat' split)<;>simp
   obtain⟨M6,c6,h6⟩:=Ln hO hk htb hlp ht (by rw[List.length_append];omega) hg h5;rw[et]at c6;refine⟨M6,λx=>?_,by rw[e,hsw,List.nil_append];simpa only[List.append_assoc]using h6⟩;refine Eq.trans (SR ..) ?_;rw[AG,gb,AT,show Y.nthL (AR t) 3=some (.int .i64 t.size)from rfl,BM,BD,Bt,AG];refine step c1 ?_;rw[BD,Bt,AG,g1,AT,show Y.nthL (AR t) 3=some (.int .i64 t.size)from rfl,BM,BD,Bt,AG,C3 hs,BH,AT,show Y.nthL (AR t) 4=some (.int .u64 t.mask)from rfl,BM,BD,Bt,AG];by_cases hm:t.mask=BX t.size
   ·obtain rfl:=q1 hm;rw[Bf hm,AG];exact c6 ..
   ·obtain⟨M3,c3,g3,q3,q4⟩:=q2 hm;rw[Bi hm,BH,AT,show Y.nthL (AR t) 4=some (.int .u64 t.mask)from rfl,BM,BD,Bt,AG];refine step c3 ?_;rw[HS];by_cases hs2:t.mask<2147483648
    ·rw[decide_eq_true hs2,AG,g3,AT,show Y.nthL (AR t) 4=some (.int .u64 t.mask)from rfl,BM,BD,Bt,AG,Hq ht.mask.1 hs2];refine step (q3 hs2) ?_;exact c6 ..
    ·obtain⟨M4,c4,c5⟩:=q4 hs2;rw[decide_eq_false hs2,BH,g3,AT,show Y.nthL (AR t) 4=some (.int .u64 t.mask)from rfl,BM,BD,Bt,AG];refine step c4 ?_;refine step c5 ?_;exact c6 ..
theorem YQ(hO:GX o)(hk:100000+50<=k)(htb:K tb=some (.cells true (AR t)))(hlp:(lp,lf)∈AJ)(ht:FP t)(hl:rows.length+50<=100000)(hg:fr (n+2))(h:St K mp rows ((ol,n+1)::AJ) fr M):
  ∃M',(∀(x:Nat->Value),ml o k 0 (AA 133 (up x [(0, .pointer (some ⟨mp,0,none⟩)),(2, .pointer (some ⟨lp,0,none⟩)),(4, .pointer (some ⟨tb,0,none⟩)),(6, .pointer (some ⟨ol,0,none⟩)),(7, .int .u64 0)])) M=some (Bl,M'))/\St K mp (rows++(D9 t++(bK t (n+1)++(XY t (n+1)++Cmp.endS t (n+1) (n+2) lf)))) AJ (λj=>fr j/\j≠n+2) M':=by
 have gb:=h.get htb
 obtain⟨M',c,h'⟩:=dY hO hk htb hlp ht hl hg h
 refine⟨M',λx=>?_,h'⟩
 refine Eq.trans (BP _ _ _ (by kernel_rfl) _ _ _ _) ?_
 refine Eq.trans (WI ..) ?_
 refine Eq.trans (dZ ..) ?_
 rw[gb,AT,show Y.nthL (AR t) 1=some (.int .i64 t.kind)from rfl,BM,BD,Bt,AG]
 by_cases h1:t.kind=3
 ·have e:BS t=true:=by simp[BS,h1]
  rw[e]at c;rw[Bf h1,AG];exact c ..
 ·rw[Bi h1,BH,AT,show Y.nthL (AR t) 1=some (.int .i64 t.kind)from rfl,BM,BD,Bt,AG];by_cases h2:t.kind=4
  ·have e:BS t=true:=by simp[BS,h2]
   rw[e]at c;rw[Bf h2,AG];exact c ..
  ·have e:BS t=false:=by simp[BS,h1,h2]
   rw[e]at c;rw[Bi h2,BH];exact c ..
end
end
section
variable{K:CU}{mp:Nat}{rows:List A9}{AJ:List (Nat×Nat)}{fr:Nat->Prop}{M:Mem}
variable{o:DT}{k:Nat}
theorem QT(t:A7)(n:Nat):(FC t n).length<=120:=by
 unfold FC
 (repeat' split)<;>simp[C9,CR]
theorem QU(t:A7)(lf n:Nat):FD t lf n=AZ++(FC t n++(D9 t++(bK t (n+1)++(XY t (n+1)++Cmp.endS t (n+1) (n+2) lf)))):=by
 simp only[FD,ED,bK,XY,List.append_assoc]
theorem Nh(t:A7)(lf n:Nat):(FD t lf n).length<=150:=by
 have h1:=QT t n
 have h2:=WM t
 have h3:=UW t (n+1)
 have h4:=UU t (n+1)
 have h5:(Cmp.endS t (n+1) (n+2) lf).length<=7:=by unfold Cmp.endS;split<;>simp[AZ]
 rw[QU]
 simp only[List.length_append,AZ,List.length_cons,List.length_nil]
 omega
theorem br{t:A7}{lp lf n:Nat}(hO:GX o)(hk:100000+60<=k)(ht:FP t)(hlp:(lp,lf)∈AJ)(hl:rows.length+300<=100000)(h:St K mp rows AJ (λj=>n<j) M):
  HU o k 16 [ptr mp, .agg ⟨AR t⟩,ptr lp] M (St K mp (rows++FD t lf n) AJ (λj=>EU t n<j)):=by
 obtain⟨k,rfl⟩:∃k',k=k'+1:=⟨k - 1,by omega⟩
 have hb:=h.box (.cells true (AR t))
 have h0:=hb.1.label (l:=n+1) (by omega)
 have htb:=BQ K M.size (.cells true (AR t))
 obtain⟨M1,c1,h1⟩:=G1 (k:=k) hO (by omega) (by omega) h0
 have gb:=h1.get htb
 have hA:=QT t n
 suffices hs:∃M2,St (FB K M.size (.cells true (AR t))) mp (rows++AZ++FC t n) ((M.size+1,n+1)::AJ) (λj=>j=n+2\/EU t n<j) M2/\
   ∀M3,(∀x:Nat->Value,ml o k 0 (AA 133 (up x [(0, .pointer (some ⟨mp,0,none⟩)),(2, .pointer (some ⟨lp,0,none⟩)),(4, .pointer (some ⟨M.size,0,none⟩)),(6, .pointer (some ⟨M.size+1,0,none⟩)),(7, .int .u64 0)])) M2=some (Bl,M3))->
    Y.codeF E1 Tryd.prog kp 1 (Y.cfT Tryd.prog (Y.cfOf (AL Tryd.prog kp 1 o k))) (GR (Y.lpOf Tryd.prog kp 1 (AL Tryd.prog kp 1 o k) 133)) 133 k (AA 133 (CM [ptr mp, .agg ⟨AR t⟩,ptr lp])) M (Y.retF Tryd.prog Tryd.f16 λv m=>some (v,m))=some (Bl,M3)by
  obtain⟨M2,h2,hrun⟩:=hs;obtain⟨M3,c3,h3⟩:=YQ (k:=k) hO (by omega) htb hlp ht (by simp[AZ];omega) (.inl rfl) h2;refine⟨M3,Bs 133 (hO.off 16 (by decide) _ _) rS rT n21 ?_ rV,?_⟩
  ·refine Eq.trans (B5 [13,22,24,26] Tryd.prog kp 1 _ (Y.lpOf Tryd.prog kp 1 (AL Tryd.prog kp 1 o k) 133) (λ_ _ _ _ _ _ _=>rfl) 133 k (AN Tryd.f16) (by kernel_rfl) _ M _) ?_;exact hrun M3 c3
  ·have h3:=(h3.weak h.glb hb.2).frees (fr':=λj=>EU t n<j) λj hj=>⟨.inr hj,by
    have hj:EU t n<j:=hj;unfold EU at hj
    (repeat' split at hj)<;>omega⟩
   rw[QU];simpa only[List.append_assoc]using h3
 obtain⟨neg,kind,pos,size,mask,lo,hi⟩:=t
 rcases ht.kind with e|e|e|e
 ·obtain rfl:kind=1:=e;obtain⟨M2,c2,h2⟩:=Oa (k:=k) (op:=11) (d:=2) (s:=8) hO (by omega) (by simp[AZ];omega) (by simp) h1;refine⟨M2,(h2.frees λj hj=>?_),λM3 c3=>?_⟩
  ·have hj:j=n+2\/n+2<j:=hj;exact⟨by omega,by omega⟩
  ·refine Eq.trans (PA ..) ?_;refine step c1 ?_;rw[gb,AT,show Y.nthL (AR ⟨neg,1,pos,size,mask,lo,hi⟩) 1=some (.int .i64 1)from rfl,BM,BD,Bt,AG,show Y.eqF 1 1=true from rfl,AG];refine step c2 ?_;exact c3 _
 ·obtain rfl:kind=2:=e;obtain⟨M2,c2,h2⟩:=Ho (k:=k) (z:=4) (d:=2) (s:=6) (n:=4) hO (by omega) (by simp[AZ];omega) (by simp) h1;refine⟨M2,(h2.frees λj hj=>?_),λM3 c3=>?_⟩
  ·have hj:j=n+2\/n+2<j:=hj;exact⟨by omega,by omega⟩
  ·refine Eq.trans (PA ..) ?_;refine step c1 ?_;rw[gb,AT,show Y.nthL (AR ⟨neg,2,pos,size,mask,lo,hi⟩) 1=some (.int .i64 2)from rfl,BM,BD,Bt,AG,show Y.eqF 2 1=false from rfl,BH,show Y.eqF 2 2=true from rfl,AG];refine step c2 ?_;exact c3 _
 ·obtain rfl:kind=3:=e;have hp:0<=pos/\pos<=255:=ht.pos rfl;have hz:Vc size:=ht.size rfl;have hz2:1<=size/\size<=8:=by rcases hz with e|e|e|e<;>omega
  obtain⟨M2,c2,h2⟩:=Ol (k:=k) (n:=pos+size) (a:=n+3) hO (by omega) (by simp[AZ];omega) (List.mem_cons_self ..) ⟨by omega,by omega⟩ h1;have g2:=h2.get htb;obtain⟨M4,c4,h4⟩:=Ho (k:=k) (z:=size) (d:=2) (s:=7) (n:=pos) hO (by omega) (by simp[AZ,C9];omega) (.inr (.inr (.inr ⟨hz,rfl,rfl⟩))) h2;refine⟨M4,?_,λM3 c3=>?_⟩
  ·simp only[List.append_assoc]at h4 ⊢;refine St.frees h4 λj hj=>?_;have hj:j=n+2\/n+3<j:=hj;exact⟨⟨by omega,by omega⟩,by omega⟩
  ·refine Eq.trans (PA ..) ?_;refine step c1 ?_
   rw[gb,AT,show Y.nthL (AR ⟨neg,3,pos,size,mask,lo,hi⟩) 1=some (.int .i64 3)from rfl,BM,BD,Bt,AG,show Y.eqF 3 1=false from rfl,BH,show Y.eqF 3 2=false from rfl,BH,show Y.eqF 3 3=true from rfl,AG,
    AT,show Y.nthL (AR ⟨neg,3,pos,size,mask,lo,hi⟩) 2=some (.int .i64 pos)from rfl,BM,BD,Bt,AG,AT,show Y.nthL (AR ⟨neg,3,pos,size,mask,lo,hi⟩) 3=some (.int .i64 size)from rfl,BM,BD,Bt,AG,
    wrap64 (x:=Int.add pos size) (by show _<=pos+size/\pos+size<=_;omega)]
   refine step c2 ?_;rw[g2,AT,show Y.nthL (AR ⟨neg,3,pos,size,mask,lo,hi⟩) 3=some (.int .i64 size)from rfl,BM,BD,Bt,AG,AT,show Y.nthL (AR ⟨neg,3,pos,size,mask,lo,hi⟩) 2=some (.int .i64 pos)from rfl,BM,BD,Bt,AG];refine step c4 ?_;exact c3 _
 ·obtain rfl:kind=4:=e;have hp:0<=pos/\pos<=255:=ht.pos rfl;have hz:Vc size:=ht.size rfl;obtain⟨M2,c2,h2⟩:=cm (k:=k) (t:=⟨neg,4,pos,size,mask,lo,hi⟩) (n:=n+2) hO (by omega) (by simp[AZ];omega) hp hz (List.mem_cons_self ..) (λj hj=>⟨by omega,by omega⟩) h1;refine⟨M2,?_,λM3 c3=>?_⟩
  ·refine St.frees (fr:=_) h2 λj hj=>?_;have hj:j=n+2\/n+4+32<j:=hj;exact⟨⟨by omega,by omega⟩,by omega⟩
  ·refine Eq.trans (PA ..) ?_;refine step c1 ?_
   rw[gb,AT,show Y.nthL (AR ⟨neg,4,pos,size,mask,lo,hi⟩) 1=some (.int .i64 4)from rfl,BM,BD,Bt,AG,show Y.eqF 4 1=false from rfl,BH,show Y.eqF 4 2=false from rfl,BH,show Y.eqF 4 3=false from rfl,BH,
    AT,show Nat.ble 7 (Y.lenLF (AR ⟨neg,4,pos,size,mask,lo,hi⟩))=true from rfl,AG,show Y.subL (AR ⟨neg,4,pos,size,mask,lo,hi⟩) 0 7=AR ⟨neg,4,pos,size,mask,lo,hi⟩from rfl]
   refine step c2 ?_;exact c3 _
end
set_option maxHeartbeats 4000000
variable{α:Type}(x:Nat->Value)(cf:Y.CF α)(L:Y.LK α)(k:Nat)(m:Mem)
noncomputable def O8:Code:=D7 [6,11] (BW Tryd.f9 0)
noncomputable def mF:List Oper:=CE 6 (AN Tryd.f9)
noncomputable def bm:List Oper:=CE 11 (AN Tryd.f9)
noncomputable def Ve:Code:=D7 [13] (BW Tryd.f9 1)
noncomputable def Vd:List Oper:=CE 13 (AN Tryd.f9)
theorem Vh(ra:Option Addr)(rn rc:Nat)(q:Value->Mem->Option α):Y.codeF (AN Tryd.f9) Tryd.prog kp 1 (Y.cfT Tryd.prog cf) L 59 k (AA 59 (CM [.slice ra rn rc])) m (Y.retF Tryd.prog Tryd.f9 q)=
 (cf 12 [.pointer (some ⟨Mem.size m,0,none⟩),.int .i64 11,.int .u8 6,.int .u8 1] (Mem.push m (.cells true [.slice none 0 0])) (λA B=>cf 13 [.pointer (some ⟨Mem.size m,0,none⟩),.int .i64 8,.int .u8 7,.int .u8 1,.int .i64 8] B (λC D=>L (λt m q=>Y.codeF (Y.loopC (AN Tryd.f9) 0) Tryd.prog kp 1 (Y.cfT Tryd.prog cf) L 59 k t m q) (Y.loopC (AN Tryd.f9) 0) k (AA 59 (up (up Go.DI.x0 [(0,.slice ra rn rc),(12,A),(2,.slice none 0 0),(10,.pointer (some ⟨Mem.size m,0,none⟩)),(14,C),(9,.agg ⟨[.slice none 0 0]⟩),(13,.pointer (some ⟨Mem.size m,0,none⟩)),(11,.pointer (some ⟨Mem.size m,0,none⟩))]) [(3,.pointer (some ⟨Mem.size m,0,none⟩)),(15,.slice ra rn rc),(16,.int .i64 (Int.ofNat rn)),(17,.int .i64 0)])) D (Y.kont Tryd.prog kp 1 (Y.cfT Tryd.prog cf) L 59 k (AN Tryd.f9) 0 (Y.retF Tryd.prog Tryd.f9 q))))):=by kernel_rfl
theorem X5(mp rb:Nat)(rp:Option Nat)(rn rc:Nat)(i:Int)(q:Y.ExK α):Y.codeF O8 Tryd.prog kp 1 (Y.cfT Tryd.prog cf) L 59 k (AA 59 (up x [(3,.pointer (some ⟨mp,0,none⟩)),(15,.slice (some ⟨rb,0,rp⟩) rn rc),(16,.int .i64 rn),(17,.int .i64 i)])) m q=
 (cond (Y.ltF i (Int.ofNat rn)) (L (Y.codeF (Y.loopC O8 0) Tryd.prog kp 1 (Y.cfT Tryd.prog cf) L 59 k) (Y.loopC O8 0) k (AA 59 (up (up x [(18,.bool true)]) [(3,.pointer (some ⟨mp,0,none⟩)),(15,.slice (some (Addr.mk rb 0 rp)) rn rc),(16,.int .i64 (Int.ofNat rn)),(17,.int .i64 i)])) m (Y.kont Tryd.prog kp 1 (Y.cfT Tryd.prog cf) L 59 k O8 0 q)) (q (Ex.exit 0) (AA 59 (up (up x [(18,.bool false)]) [(3,.pointer (some ⟨mp,0,none⟩)),(15,.slice (some (Addr.mk rb 0 rp)) rn rc),(16,.int .i64 (Int.ofNat rn)),(17,.int .i64 i)])) m)):=by kernel_rfl
theorem iU(mp rb:Nat)(rp:Option Nat)(rn rc:Nat)(i:Int)(q:AE->Mem->Option α):Y.opsF (List.take 3 mF) Tryd.prog kp 1 (Y.cfT Tryd.prog cf) 59 mF (AA 59 (up x [(3,.pointer (some ⟨mp,0,none⟩)),(15,.slice (some ⟨rb,0,rp⟩) rn rc),(16,.int .i64 rn),(17,.int .i64 i)])) m q=
 (Y.onNat i (λA=>cond (Nat.blt A rn) (Y.cellsOf (Mem.get m rb) (λ_ B=>cond (Nat.ble (Nat.add (Nat.add 0 (Nat.mul A 2)) 2) (Y.lenLF B)) (q (AA 59 (up (up x [(19,.pointer (some ⟨rb,Nat.add 0 (Nat.mul A 2),none⟩))]) [(3,.pointer (some ⟨mp,0,none⟩)),(5,.pointer (some ⟨Mem.size m,0,none⟩)),(15,.slice (some (Addr.mk rb 0 rp)) rn rc),(16,.int .i64 (Int.ofNat rn)),(17,.int .i64 i),(20,.agg ⟨Y.subL B (Nat.add 0 (Nat.mul A 2)) 2⟩)])) (Mem.push m (.cells true [.slice none 0 0,.int .u32 0]))) none)) none)):=by kernel_rfl
theorem iV(xb:Nat)(mp rb:Nat)(rp:Option Nat)(rn rc:Nat)(i:Int)(q:Y.ExK α):Y.kont Tryd.prog kp 1 (Y.cfT Tryd.prog cf) L 59 k O8 0 q .normal (AA 59 (up x [(3,.pointer (some ⟨mp,0,none⟩)),(5,.pointer (some ⟨xb,0,none⟩)),(15,.slice (some ⟨rb,0,rp⟩) rn rc),(16,.int .i64 rn),(17,.int .i64 i)])) m=
 (cf 14 [.pointer (some ⟨mp,0,none⟩)] (Mem.push m (.cells true [.int .i64 0,.slice none 0 0])) (λC B=>Y.cellsOf (Mem.get B xb) (λ_ F=>Option.elim (Y.nthL F 0) none (λG=>Y.asSl G (λD A E=>cond (Y.eqF (Int.ofNat A) 0) (cf 15 [.pointer (some ⟨mp,0,none⟩),.int .i64 5,.int .u8 2,.int .i32 0,.pointer (some ⟨Mem.size m,0,none⟩)] B (λH I=>L (Y.codeF (Y.loopC O8 1) Tryd.prog kp 1 (Y.cfT Tryd.prog cf) L 59 k) (Y.loopC O8 1) k (AA 59 (up (up x [(24,.slice D A E),(28,H),(26,.bool true),(22,C),(25,.int .i64 (Int.ofNat A)),(21,.pointer (some ⟨mp,0,none⟩)),(27,.pointer (some ⟨mp,0,none⟩)),(23,.pointer (some ⟨xb,0,none⟩))]) [(3,.pointer (some ⟨mp,0,none⟩)),(5,.pointer (some ⟨xb,0,none⟩)),(6,.pointer (some ⟨Mem.size m,0,none⟩)),(15,.slice (some (Addr.mk rb 0 rp)) rn rc),(16,.int .i64 (Int.ofNat rn)),(17,.int .i64 i)])) I (Y.kont Tryd.prog kp 1 (Y.cfT Tryd.prog cf) L 59 k O8 1 q))) (L (Y.codeF (Y.loopC O8 1) Tryd.prog kp 1 (Y.cfT Tryd.prog cf) L 59 k) (Y.loopC O8 1) k (AA 59 (up (up x [(24,.slice D A E),(26,.bool false),(22,C),(25,.int .i64 (Int.ofNat A)),(21,.pointer (some ⟨mp,0,none⟩)),(23,.pointer (some ⟨xb,0,none⟩))]) [(3,.pointer (some ⟨mp,0,none⟩)),(5,.pointer (some ⟨xb,0,none⟩)),(6,.pointer (some ⟨Mem.size m,0,none⟩)),(15,.slice (some (Addr.mk rb 0 rp)) rn rc),(16,.int .i64 (Int.ofNat rn)),(17,.int .i64 i)])) B (Y.kont Tryd.prog kp 1 (Y.cfT Tryd.prog cf) L 59 k O8 1 q))) none)))):=by kernel_rfl
theorem X6(xb lp:Nat)(mp rb:Nat)(rp:Option Nat)(rn rc:Nat)(i:Int)(q:AE->Mem->Option α):Y.opsF (bm) Tryd.prog kp 1 (Y.cfT Tryd.prog cf) 59 bm (AA 59 (up x [(3,.pointer (some ⟨mp,0,none⟩)),(5,.pointer (some ⟨xb,0,none⟩)),(6,.pointer (some ⟨lp,0,none⟩)),(15,.slice (some ⟨rb,0,rp⟩) rn rc),(16,.int .i64 rn),(17,.int .i64 i)])) m q=
 (Y.cellsOf (Mem.get m xb) (λ_ B=>Option.elim (Y.nthL B 0) none (λC=>Y.asSl C (λD A E=>q (AA 59 (up (up x [(29,.pointer (some ⟨xb,0,none⟩))]) [(3,.pointer (some ⟨mp,0,none⟩)),(5,.pointer (some ⟨xb,0,none⟩)),(6,.pointer (some ⟨lp,0,none⟩)),(15,.slice (some (Addr.mk rb 0 rp)) rn rc),(16,.int .i64 (Int.ofNat rn)),(17,.int .i64 i),(30,.slice D A E),(31,.int .i64 (Int.ofNat A)),(32,.int .i64 0)])) m) none))):=by kernel_rfl
theorem X7(xb lp:Nat)(ta:Option Addr)(tn tc:Nat)(j:Int)(mp rb:Nat)(rp:Option Nat)(rn rc:Nat)(i:Int)(q:Y.ExK α):Y.kont Tryd.prog kp 1 (Y.cfT Tryd.prog cf) L 59 k O8 1 q .normal (AA 59 (up x [(3,.pointer (some ⟨mp,0,none⟩)),(5,.pointer (some ⟨xb,0,none⟩)),(6,.pointer (some ⟨lp,0,none⟩)),(15,.slice (some ⟨rb,0,rp⟩) rn rc),(16,.int .i64 rn),(17,.int .i64 i),(30,.slice ta tn tc),(31,.int .i64 tn),(32,.int .i64 j)])) m=
 (L (Y.codeF (Y.loopC O8 2) Tryd.prog kp 1 (Y.cfT Tryd.prog cf) L 59 k) (Y.loopC O8 2) k (AA 59 (up x [(3,.pointer (some ⟨mp,0,none⟩)),(5,.pointer (some ⟨xb,0,none⟩)),(6,.pointer (some ⟨lp,0,none⟩)),(15,.slice (some (Addr.mk rb 0 rp)) rn rc),(16,.int .i64 (Int.ofNat rn)),(17,.int .i64 i),(30,.slice ta tn tc),(31,.int .i64 (Int.ofNat tn)),(32,.int .i64 j)])) m (Y.kont Tryd.prog kp 1 (Y.cfT Tryd.prog cf) L 59 k O8 2 q)):=by kernel_rfl
theorem X8(xb lp:Nat)(ta:Option Addr)(tn tc:Nat)(j:Int)(mp rb:Nat)(rp:Option Nat)(rn rc:Nat)(i:Int)(q:Y.ExK α):Y.kont Tryd.prog kp 1 (Y.cfT Tryd.prog cf) L 59 k O8 2 q (.exit 2) (AA 59 (up x [(3,.pointer (some ⟨mp,0,none⟩)),(5,.pointer (some ⟨xb,0,none⟩)),(6,.pointer (some ⟨lp,0,none⟩)),(15,.slice (some ⟨rb,0,rp⟩) rn rc),(16,.int .i64 rn),(17,.int .i64 i),(30,.slice ta tn tc),(31,.int .i64 tn),(32,.int .i64 j)])) m=
 (Y.cellsOf (Mem.get m xb) (λ_ D=>Option.elim (Y.nthL D 1) none (λE=>Y.asInt E (λF C=>cond (Y.kEq .u32 F) (cf 17 [.pointer (some ⟨mp,0,none⟩),.int .u32 C] m (λG A=>cf 18 [.pointer (some ⟨mp,0,none⟩),.slice (some ⟨Mem.size A,0,none⟩) 1 1] (Mem.push A (.cells true [.pointer (some ⟨lp,0,none⟩)])) (λH B=>cf 19 [.pointer (some ⟨mp,0,none⟩),.slice (some ⟨Mem.size B,0,none⟩) 1 1] (Mem.push B (.cells true [.pointer (some ⟨lp,0,none⟩)])) (λI J=>q .normal (AA 59 (up (up x [(32,.int .i64 j),(48,.slice (some ⟨Mem.size B,0,none⟩) 1 1),(40,.pointer (some ⟨mp,0,none⟩)),(44,.pointer (some ⟨mp,0,none⟩)),(50,.int .i64 (IntKind.wrap .i64 (Int.add i 1))),(42,.int .u32 C),(6,.pointer (some ⟨lp,0,none⟩)),(46,H),(30,.slice ta tn tc),(49,I),(41,.pointer (some ⟨xb,1,none⟩)),(5,.pointer (some ⟨xb,0,none⟩)),(45,.slice (some ⟨Mem.size A,0,none⟩) 1 1),(43,G),(47,.pointer (some ⟨mp,0,none⟩)),(31,.int .i64 (Int.ofNat tn))]) [(3,.pointer (some ⟨mp,0,none⟩)),(15,.slice (some (Addr.mk rb 0 rp)) rn rc),(16,.int .i64 (Int.ofNat rn)),(17,.int .i64 (IntKind.wrap .i64 (Int.add i 1)))])) J)))) none) none))):=by kernel_rfl
theorem SC(mp:Nat)(w15 GZ w17:Value)(q:Value->Mem->Option α):Y.kont Tryd.prog kp 1 (Y.cfT Tryd.prog cf) L 59 k (AN Tryd.f9) 0 (Y.retF Tryd.prog Tryd.f9 q) (.exit 0) (AA 59 (up x [(3,.pointer (some ⟨mp,0,none⟩)),(15,w15),(16,GZ),(17,w17)])) m=
 (cf 14 [.pointer (some ⟨mp,0,none⟩)] m (λH B=>cf 17 [.pointer (some ⟨mp,0,none⟩),.int .u32 0] B (λI A=>Y.cellsOf (Mem.get A mp) (λ_ C=>Option.elim (Y.nthL C 0) none (λD=>Y.asSl D (λE F G=>q (.slice E F G) A) none))))):=by kernel_rfl
theorem X4(xb lp tb tn tc:Nat)(tp:Option Nat)(j:Int)(mp rb:Nat)(rp:Option Nat)(rn rc:Nat)(i:Int)(q:Y.ExK α):Y.codeF Ve Tryd.prog kp 1 (Y.cfT Tryd.prog cf) L 59 k (AA 59 (up x [(3,.pointer (some ⟨mp,0,none⟩)),(5,.pointer (some ⟨xb,0,none⟩)),(6,.pointer (some ⟨lp,0,none⟩)),(15,.slice (some ⟨rb,0,rp⟩) rn rc),(16,.int .i64 rn),(17,.int .i64 i),(30,.slice (some ⟨tb,0,tp⟩) tn tc),(31,.int .i64 tn),(32,.int .i64 j)])) m q=
 (cond (Y.ltF j (Int.ofNat tn)) (L (Y.codeF (Y.loopC Ve 0) Tryd.prog kp 1 (Y.cfT Tryd.prog cf) L 59 k) (Y.loopC Ve 0) k (AA 59 (up (up x [(33,.bool true)]) [(3,.pointer (some ⟨mp,0,none⟩)),(5,.pointer (some ⟨xb,0,none⟩)),(6,.pointer (some ⟨lp,0,none⟩)),(15,.slice (some (Addr.mk rb 0 rp)) rn rc),(16,.int .i64 (Int.ofNat rn)),(17,.int .i64 i),(30,.slice (some (Addr.mk tb 0 tp)) tn tc),(31,.int .i64 (Int.ofNat tn)),(32,.int .i64 j)])) m (Y.kont Tryd.prog kp 1 (Y.cfT Tryd.prog cf) L 59 k Ve 0 q)) (q (Ex.exit 2) (AA 59 (up (up x [(33,.bool false)]) [(3,.pointer (some ⟨mp,0,none⟩)),(5,.pointer (some ⟨xb,0,none⟩)),(6,.pointer (some ⟨lp,0,none⟩)),(15,.slice (some (Addr.mk rb 0 rp)) rn rc),(16,.int .i64 (Int.ofNat rn)),(17,.int .i64 i),(30,.slice (some (Addr.mk tb 0 tp)) tn tc),(31,.int .i64 (Int.ofNat tn)),(32,.int .i64 j)])) m)):=by kernel_rfl
theorem iS(xb lp tb tn tc:Nat)(tp:Option Nat)(j:Int)(mp rb:Nat)(rp:Option Nat)(rn rc:Nat)(i:Int)(q:AE->Mem->Option α):Y.opsF (List.take 3 Vd) Tryd.prog kp 1 (Y.cfT Tryd.prog cf) 59 Vd (AA 59 (up x [(3,.pointer (some ⟨mp,0,none⟩)),(5,.pointer (some ⟨xb,0,none⟩)),(6,.pointer (some ⟨lp,0,none⟩)),(15,.slice (some ⟨rb,0,rp⟩) rn rc),(16,.int .i64 rn),(17,.int .i64 i),(30,.slice (some ⟨tb,0,tp⟩) tn tc),(31,.int .i64 tn),(32,.int .i64 j)])) m q=
 (Y.onNat j (λA=>cond (Nat.blt A tn) (Y.cellsOf (Mem.get m tb) (λ_ B=>cond (Nat.ble (Nat.add (Nat.add 0 (Nat.mul A 7)) 7) (Y.lenLF B)) (q (AA 59 (up (up x [(34,.pointer (some ⟨tb,Nat.add 0 (Nat.mul A 7),none⟩))]) [(3,.pointer (some ⟨mp,0,none⟩)),(5,.pointer (some ⟨xb,0,none⟩)),(6,.pointer (some ⟨lp,0,none⟩)),(8,.pointer (some ⟨Mem.size m,0,none⟩)),(15,.slice (some (Addr.mk rb 0 rp)) rn rc),(16,.int .i64 (Int.ofNat rn)),(17,.int .i64 i),(30,.slice (some (Addr.mk tb 0 tp)) tn tc),(31,.int .i64 (Int.ofNat tn)),(32,.int .i64 j),(35,.agg ⟨Y.subL B (Nat.add 0 (Nat.mul A 7)) 7⟩)])) (Mem.push m (.cells true [.bool false,.int .i64 0,.int .i64 0,.int .i64 0,.int .u64 0,.int .u64 0,.int .u64 0]))) none)) none)):=by kernel_rfl
theorem iT(yb:Nat)(xb lp tb tn tc:Nat)(tp:Option Nat)(j:Int)(mp rb:Nat)(rp:Option Nat)(rn rc:Nat)(i:Int)(q:Y.ExK α):Y.kont Tryd.prog kp 1 (Y.cfT Tryd.prog cf) L 59 k Ve 0 q .normal (AA 59 (up x [(3,.pointer (some ⟨mp,0,none⟩)),(5,.pointer (some ⟨xb,0,none⟩)),(6,.pointer (some ⟨lp,0,none⟩)),(8,.pointer (some ⟨yb,0,none⟩)),(15,.slice (some ⟨rb,0,rp⟩) rn rc),(16,.int .i64 rn),(17,.int .i64 i),(30,.slice (some ⟨tb,0,tp⟩) tn tc),(31,.int .i64 tn),(32,.int .i64 j)])) m=
 (Y.cellsOf (Mem.get m yb) (λ_ A=>cond (Nat.ble 7 (Y.lenLF A)) (cf 16 [.pointer (some ⟨mp,0,none⟩),.agg ⟨Y.subL A 0 7⟩,.pointer (some ⟨lp,0,none⟩)] m (λB C=>q .normal (AA 59 (up (up x [(8,.pointer (some ⟨yb,0,none⟩)),(36,.pointer (some ⟨mp,0,none⟩)),(38,B),(37,.agg ⟨Y.subL A 0 7⟩),(39,.int .i64 (IntKind.wrap .i64 (Int.add j 1)))]) [(3,.pointer (some ⟨mp,0,none⟩)),(5,.pointer (some ⟨xb,0,none⟩)),(6,.pointer (some ⟨lp,0,none⟩)),(15,.slice (some (Addr.mk rb 0 rp)) rn rc),(16,.int .i64 (Int.ofNat rn)),(17,.int .i64 i),(30,.slice (some (Addr.mk tb 0 tp)) tn tc),(31,.int .i64 (Int.ofNat tn)),(32,.int .i64 (IntKind.wrap .i64 (Int.add j 1)))])) C)) none)):=by kernel_rfl
end
end Go.Proofs.YtgjflcgmieiafaaDoor
namespace Go.DI
namespace Kit
noncomputable section
def AF(N:Nat)(kn:List (Nat×Value))(e:Ex)(M:Mem)(r:Option (Ex×AE×Mem)):Prop:=∃x',r=some (e,AA N (up x' kn),M)
section
variable{N:Nat}{kn:List (Nat×Value)}{e:Ex}{M:Mem}
theorem AF.here(x:Nat->Value):AF N kn e M (some (e,AA N (up x kn),M)):=⟨x,rfl⟩
theorem up_self(F:Nat->Value):∀kn:List (Nat×Value),(∀p∈kn,F p.1=p.2)->up F kn=F
 | [],_=>rfl
 |p::kn,h=>by
  have ih:=up_self F kn λq hq=>h q (List.mem_cons_of_mem _ hq);funext i;have h1:=h p (List.mem_cons_self ..)
  have e:up F (p::kn) i=if i=p.1 then p.2 else up F kn i:=by
   show Bool.rec (motive:=λ_=>Value) (up F kn i) p.2 (Nat.beq p.1 i)=_;by_cases hij:i=p.1
   ·rw[if_pos hij,show Nat.beq p.1 i=true from by rw[hij];exact Nat.beq_refl _]
   ·rw[if_neg hij,show Nat.beq p.1 i=false from by
     cases hb:Nat.beq p.1 i with
     |false=>rfl
     |true=>exact absurd (Nat.eq_of_beq_eq_true hb).symm hij]
  rw[e,ih];split
  ·rename_i he;rw[he,h1]
  ·rfl
theorem AF.at{F:Nat->Value}(h:∀p∈kn,F p.1=p.2):AF N kn e M (some (e,AA N F,M)):=⟨F,by rw[up_self F kn h]⟩
theorem AF.via{a b:Option (Ex×AE×Mem)}(h:a=b)(hb:AF N kn e M b):AF N kn e M a:=h▸hb
theorem AF.step{df:FQ}{f:FuncId}{a:List Value}{m m':Mem}{v:Value}{q:Value->Mem->Option (Ex×AE×Mem)}(h:df f a m=some (v,m'))(hq:AF N kn e M (q v m')):AF N kn e M (Y.cfOf df f a m q):=by
 rw[gA,h,Lc];exact hq
theorem AF.loop{N':Nat}{kn':List (Nat×Value)}{e':Ex}{M':Mem}{r:Option (Ex×AE×Mem)}{q:Y.ExK (Ex×AE×Mem)}(hl:AF N' kn' e' M' r) (hq:∀x',AF N kn e M (q e' (AA N' (up x' kn')) M')):AF N kn e M (Y.onE r q):=by
 obtain⟨x',rfl⟩:=hl
 rw[nK];exact hq x'
theorem AF.next{kn':List (Nat×Value)}{M':Mem}{body:AE->Mem->Option (Ex×AE×Mem)}{t:AE}{m:Mem}{j:Nat}(h:AF N kn' .normal M' (body t m)) (hq:∀x',AF N kn e M (B2 body j (AA N (up x' kn')) M')):AF N kn e M (B2 body (j+1) t m):=by
 obtain⟨x',h⟩:=h
 rw[EE j h];exact hq x'
theorem AF.stop{body:AE->Mem->Option (Ex×AE×Mem)}{t:AE}{m:Mem}{j:Nat}(h:AF N kn e M (body t m))(he:e≠ .normal):AF N kn e M (B2 body (j+1) t m):=by
 obtain⟨x',h⟩:=h
 rw[Db j h he];exact⟨x',rfl⟩
theorem AF.turn{P:Program}{K:TypeId->Bool}{G:Nat}{o:DT}{k n:Nat}{c:Code}{t:AE}{m:Mem} (h:AF N kn e M (Y.codeF c P K G (Y.cfT P (Y.cfOf (AL P K G o k))) (Y.lpOf P K G (AL P K G o k) n) n k t m Y.q0)):
  AF N kn e M (AH P K G (AL P K G o k) (A6 P K G (AL P K G o k) n) n k c t m):=by
 obtain⟨x',h⟩:=h
 exact⟨x',EZ h⟩
theorem L5{α:Type}{N':Nat}{kn':List (Nat×Value)}{e':Ex}{M':Mem}{r:Option (Ex×AE×Mem)}{q:Y.ExK α}{R:Option α}(hl:AF N' kn' e' M' r)(hq:∀x',q e' (AA N' (up x' kn')) M'=R):Y.onE r q=R:=by
 obtain⟨x',rfl⟩:=hl
 rw[nK];exact hq x'
end
end
end Kit
end Go.DI
namespace Go.Cmp
open Go Go.DI
section
variable{X:Type}{g:X->List Value}{z:Nat}
theorem DL(hz:∀x,(g x).length=z):∀l:List X,(l.flatMap g).length=l.length*z
 | []=>by simp
 |x::l=>by
  have ih:=DL hz l;simp only[List.flatMap_cons,List.length_append,ih,hz,List.length_cons];rw[Nat.add_mul,Nat.one_mul];omega
theorem Gl(hz:∀x,(g x).length=z):∀(l:List X) (j:Nat) (x:X),l[j]?=some x->∃r,(l.flatMap g).drop (j*z)=g x++r
 | [],j,x,h=>by simp at h
 |y::l,0,x,h=>by simp at h;subst h;exact⟨l.flatMap g,by simp⟩
 |y::l,j+1,x,h=>by
  obtain⟨r,hr⟩:=Gl hz l j x (by simpa using h);refine⟨r,?_⟩;have e:(j+1)*z=(g y).length+j*z:=by rw[hz,Nat.add_mul,Nat.one_mul];omega
  rw[e,List.flatMap_cons,←List.drop_drop,List.drop_left];exact hr
theorem Dm(hz:∀x,(g x).length=z){l:List X}{j:Nat}{x:X}(h:l[j]?=some x)(r:List Value):Y.subL (l.flatMap g++r) (Nat.add 0 (Nat.mul j z)) z=g x:=by
 obtain⟨t,ht⟩:=Gl hz l j x h
 have hl:j<l.length:=(List.getElem?_eq_some_iff.1 h).1
 have hm:j*z<=l.length*z:=Nat.mul_le_mul_right z (by omega)
 rw[Y.subL_eq,show Nat.add 0 (Nat.mul j z)=j*z from Nat.zero_add _,List.drop_append_of_le_length (by rw[DL hz];exact hm),ht,List.append_assoc]
 exact List.take_left' (hz x)
theorem Dk(hz:∀x,(g x).length=z){l:List X}{j:Nat}(h:j<l.length)(r:List Value):Nat.ble (Nat.add (Nat.add 0 (Nat.mul j z)) z) (Y.lenLF (l.flatMap g++r))=true:=by
 rw[Y.lenLF_eq,List.length_append,DL hz]
 have hm:(j+1)*z<=l.length*z:=Nat.mul_le_mul_right z (by omega)
 rw[Nat.add_mul,Nat.one_mul]at hm
 exact Nat.ble_eq_true_of_le (by show 0+j*z+z<=_;omega)
end
def B9(x:Value×A5):List Value:= [x.1, .int .u32 x.2.verdict]
theorem CJ(x:Value×A5):(B9 x).length=2:=rfl
end Go.Cmp
namespace Go.Proofs.YtgjflcgmieiafaaDoor
open Go Go.DI Go.DI.Kit Go.Proofs Go.Cmp
noncomputable section
theorem Dl(t:A7):(AR t).length=7:=rfl
def EW(K:CU)(v:Value)(ts:List A7):Prop:=∃a cap,v= .slice a ts.length cap/\(ts≠ []->∃b sp own rest,a=some ⟨b,0,sp⟩/\K b=some (.cells own (ts.flatMap AR++rest)))
def DH(K:CU)(v:Value)(rs:List A5):Prop:=∃a cap,v= .slice a rs.length cap/\(rs≠ []->∃(b:Nat) (sp:Option Nat) (own:Bool) (rest:List Value) (vr:List (Value×A5)),a=some ⟨b,0,sp⟩/\vr.map (·.2)=rs/\K b=some (.cells own (vr.flatMap B9++rest))/\∀x∈vr,EW K x.1 x.2.tests)
theorem EW.mono{K K':CU}{v:Value}{ts:List A7}(h:EW K v ts)(hw:∀j x,K j=some x->K' j=some x):EW K' v ts:=by
 obtain⟨a,cap,h1,h2⟩:=h
 refine⟨a,cap,h1,λh0=>?_⟩
 obtain⟨b,sp,own,rest,h3,h4⟩:=h2 h0
 exact⟨b,sp,own,rest,h3,hw _ _ h4⟩
theorem DH.mono{K K':CU}{v:Value}{rs:List A5}(h:DH K v rs)(hw:∀j x,K j=some x->K' j=some x):DH K' v rs:=by
 obtain⟨a,cap,h1,h2⟩:=h
 refine⟨a,cap,h1,λh0=>?_⟩
 obtain⟨b,sp,own,rest,vr,h3,h4,h5,h6⟩:=h2 h0
 exact⟨b,sp,own,rest,vr,h3,h4,hw _ _ h5,λx hx=>(h6 x hx).mono hw⟩
structure O7(rs:List A5):Prop where
 len:rs.length<=32
 tests:∀r∈rs,r.tests.length<=8
 ok:∀r∈rs,∀t∈r.tests,FP t
theorem ph:Tryd.prog.funcs[9]?=some Tryd.f9:=by kernel_rfl
theorem pj:Tryd.f9.body=some (AN Tryd.f9):=by kernel_rfl
theorem po:Tryd.f9.ntmps=59:=by kernel_rfl
theorem n13{a:Value}:max [a].length Tryd.f9.ntmps=59:=by rw[po];rfl
section
variable{α:Type}(x:Nat->Value)(cf:Y.CF α)(L:Y.LK α)(k:Nat)(m:Mem)
theorem bj(b:Nat)(w3 w15 GZ w17 u:Value)(q:AE->Mem->Option α):Y.opsF (List.drop 3 mF) Tryd.prog kp 1 (Y.cfT Tryd.prog cf) 59 mF (AA 59 (up x [(3,w3),(5, .pointer (some ⟨b,0,none⟩)),(15,w15),(16,GZ),(17,w17),(20,u)])) m q=
 Y.storeF Tryd.prog m 28 u (.pointer (some ⟨b,0,none⟩)) λm'=>q (AA 59 (up (up x [(20,u)]) [(3,w3),(5, .pointer (some ⟨b,0,none⟩)),(15,w15),(16,GZ),(17,w17)])) m':=by kernel_rfl
theorem bl(b:Nat)(w3 w5 w6 w15 GZ w17 w30 w31 Jq u:Value)(q:AE->Mem->Option α):Y.opsF (List.drop 3 Vd) Tryd.prog kp 1 (Y.cfT Tryd.prog cf) 59 Vd (AA 59 (up x [(3,w3),(5,w5),(6,w6),(8, .pointer (some ⟨b,0,none⟩)),(15,w15),(16,GZ),(17,w17),(30,w30),(31,w31),(32,Jq),(35,u)])) m q=
 Y.storeF Tryd.prog m 24 u (.pointer (some ⟨b,0,none⟩)) λm'=>q (AA 59 (up (up x [(35,u)]) [(3,w3),(5,w5),(6,w6),(8, .pointer (some ⟨b,0,none⟩)),(15,w15),(16,GZ),(17,w17),(30,w30),(31,w31),(32,Jq)])) m':=by kernel_rfl
theorem iR(t:AE)(q:Y.ExK α):Y.codeF (Y.loopC O8 0) Tryd.prog kp 1 (Y.cfT Tryd.prog cf) L 59 k t m q=Y.opsF mF Tryd.prog kp 1 (Y.cfT Tryd.prog cf) 59 mF t m λt m=>q .normal t m:=by kernel_rfl
theorem Tq(t:AE)(q:Y.ExK α):Y.codeF (Y.loopC O8 1) Tryd.prog kp 1 (Y.cfT Tryd.prog cf) L 59 k t m q=Y.opsF bm Tryd.prog kp 1 (Y.cfT Tryd.prog cf) 59 bm t m λt m=>q .normal t m:=by kernel_rfl
theorem bn(t:AE)(q:Y.ExK α):Y.codeF (Y.loopC Ve 0) Tryd.prog kp 1 (Y.cfT Tryd.prog cf) L 59 k t m q=Y.opsF Vd Tryd.prog kp 1 (Y.cfT Tryd.prog cf) 59 Vd t m λt m=>q .normal t m:=by kernel_rfl
theorem bp(w3 w5 w6 w15 GZ w17 w30:Value)(q:Y.ExK α):Y.codeF (BW Tryd.f9 1) Tryd.prog kp 1 (Y.cfT Tryd.prog cf) L 59 k (AA 59 (up x [(3,w3),(5,w5),(6,w6),(15,w15),(16,GZ),(17,w17),(30,w30),(31, .int .i64 (0:Nat)),(32, .int .i64 (0:Int))])) m q=
 q (.exit 2) (AA 59 (up (up x [(33, .bool false)]) [(3,w3),(5,w5),(6,w6),(15,w15),(16,GZ),(17,w17),(30,w30),(31, .int .i64 (0:Nat)),(32, .int .i64 (0:Int))])) m:=by kernel_rfl
theorem bq(w3 w15:Value)(q:Y.ExK α):Y.codeF (BW Tryd.f9 0) Tryd.prog kp 1 (Y.cfT Tryd.prog cf) L 59 k (AA 59 (up x [(3,w3),(15,w15),(16, .int .i64 (0:Nat)),(17, .int .i64 (0:Int))])) m q=
 q (.exit 0) (AA 59 (up (up x [(18, .bool false)]) [(3,w3),(15,w15),(16, .int .i64 (0:Nat)),(17, .int .i64 (0:Int))])) m:=by kernel_rfl
end
theorem mh:Y.loopC O8 2=BW Tryd.f9 1:=by kernel_rfl
theorem mc:Bh Tryd.prog 28=some 2:=by kernel_rfl
theorem mb:Bh Tryd.prog 24=some 7:=by kernel_rfl
section
variable{K K':CU}{mp:Nat}{rows:List A9}{AJ:List (Nat×Nat)}{fr:Nat->Prop}{M M':Mem}
variable{o:DT}{k:Nat}
theorem St.boxE(h:St K mp rows AJ fr M){b:Nat}{x:BI}(hx:Ext M M')(h1:M.size<=b)(h2:b<M'.size)(hb:M'.get b=x):St (FB K b x) mp rows AJ fr M'/\∀j y,K j=some y->FB K b x j=some y:=by
 obtain⟨f,h⟩:=h
 have hb:=h.hp.box hx h1 h2 hb
 exact⟨⟨f,hb.1,hb.2 _ _ h.glob,h.pos,h.nod,h.free,h.sett,h.known⟩,hb.2⟩
theorem Ext.fresh{m:Mem}{x y:BI}:Ext m ((m.push x).set m.size y):=by
 refine⟨by show m.size<=m.size+1;omega,λj hj=>?_,λt j hj=>?_⟩
 ·rw[Mem.get_set_ne _ (by omega),Mem.get_push_ne _ (by omega)]
 ·have hj:m.size+1<=j:=hj;rw[Mem.get_set_ne _ (by omega),Mem.get_push_ne _ (by omega)];exact t j (by omega)
theorem L8{ts:List A7}{rest:List Value}{own:Bool}{lp l tb tc xb rb rn rc i:Nat}{tp rp:Option Nat}(hO:GX o)(hk:100000+70<=k)(hn:ts.length<=8)(hts:∀t∈ts,FP t)(hlp:(lp,l)∈AJ)(htb:K tb=some (.cells own (ts.flatMap AR++rest))):
  ∀(d j:Nat),ts.length=j+d->∀(jj n:Nat) (rows:List A9) (M:Mem),d+1<=jj->rows.length+150*d+300<=100000->St K mp rows AJ (λj=>n<j) M->
  ∃M',(∀x,AF 59 [(3, .pointer (some ⟨mp,0,none⟩)),(5, .pointer (some ⟨xb,0,none⟩)),(6, .pointer (some ⟨lp,0,none⟩)),(15, .slice (some ⟨rb,0,rp⟩) rn rc),(16, .int .i64 (rn:Int)),(17, .int .i64 (i:Int)),(30, .slice (some ⟨tb,0,tp⟩) ts.length tc),(31, .int .i64 (ts.length:Int)),(32, .int .i64 (ts.length:Int))] (.exit 2) M' (B2 (AH Tryd.prog kp 1 (AL Tryd.prog kp 1 o k) (A6 Tryd.prog kp 1 (AL Tryd.prog kp 1 o k) 59) 59 k (BW Tryd.f9 1)) jj (AA 59 (up x [(3, .pointer (some ⟨mp,0,none⟩)),(5, .pointer (some ⟨xb,0,none⟩)),(6, .pointer (some ⟨lp,0,none⟩)),(15, .slice (some ⟨rb,0,rp⟩) rn rc),(16, .int .i64 (rn:Int)),(17, .int .i64 (i:Int)),(30, .slice (some ⟨tb,0,tp⟩) ts.length tc),(31, .int .i64 (ts.length:Int)),(32, .int .i64 (j:Int))])) M))/\St K mp (rows++CK l (ts.drop j) n) AJ (λj'=>Cl (ts.drop j) n<j') M'
 |0,j,hj,jj,n,rows,M,hjj,_,h=>by
  obtain⟨jj,rfl⟩:∃j',jj=j'+1:=⟨jj - 1,by omega⟩;obtain rfl:j=ts.length:=by omega
  refine⟨M,λx=>AF.stop (AF.turn ?_) (by simp),?_⟩
  ·refine AF.via (B5 [13] Tryd.prog kp 1 _ (Y.lpOf Tryd.prog kp 1 (AL Tryd.prog kp 1 o k) 59) (λ_ _ _ _ _ _ _=>rfl) 59 k (BW Tryd.f9 1) (by kernel_rfl) _ M _) ?_;refine AF.via (X4 ..) ?_;rw[I4 (by omega),BH];exact AF.here _
  ·rw[List.drop_length,show CK l [] n= []from rfl,List.append_nil];exact h
 |d+1,j,hj,jj,n,rows,M,hjj,hl,h=>by
  obtain⟨jj,rfl⟩:∃j',jj=j'+1:=⟨jj - 1,by omega⟩;have hlt:j<ts.length:=by omega
  obtain⟨t,ht⟩:∃t,ts[j]?=some t:=⟨_,List.getElem?_eq_getElem hlt⟩;have htm:t∈ts:=List.mem_of_getElem? ht
  have hd:ts.drop j=t::ts.drop (j+1):=by
   rw[List.drop_eq_getElem_cons hlt];congr 1;rw[List.getElem?_eq_getElem hlt]at ht;exact Option.some.inj ht
  have gb:=h.get htb;obtain⟨M1,hM1⟩:∃M1,(M.push (.cells true [(.bool false),(.int .i64 (0:Int)),(.int .i64 (0:Int)),(.int .i64 (0:Int)),(.int .u64 (0:Int)),(.int .u64 (0:Int)),(.int .u64 (0:Int))])).set M.size (.cells true (AR t))=M1:=⟨_,rfl⟩;have gy:M1.get M.size= .cells true (AR t):=by rw[←hM1];exact Mem.get_set_same _ _ _
  have hb1:=h.boxE (M':=M1) (b:=M.size) (x:= .cells true (AR t)) (hM1▸Ext.fresh) (Nat.le_refl _) (by rw[←hM1];show M.size<M.size+1;omega) gy;obtain⟨M2,c2,h2⟩:=br (k:=k) (lf:=l) hO (by omega) (hts t htm) hlp (by omega) hb1.1;have h2:=h2.weak h.glb hb1.2
  have hst:Bx Tryd.prog (M.push (.cells true [(.bool false),(.int .i64 (0:Int)),(.int .i64 (0:Int)),(.int .i64 (0:Int)),(.int .u64 (0:Int)),(.int .u64 (0:Int)),(.int .u64 (0:Int))])) 24 (.agg ⟨AR t⟩) (.pointer (some ⟨M.size,0,none⟩))=some M1:=by
   rw[Cn (n:=7) mb rfl (Mem.get_push_same _ _) (by simp) rfl,←hM1];rfl
  have htl:=Nh t l n;obtain⟨M3,h3,h4⟩:=L8 (xb:=xb) (rb:=rb) (rn:=rn) (rc:=rc) (i:=i) (tp:=tp) (rp:=rp) (tc:=tc) hO hk hn hts hlp htb d (j+1) (by omega) jj (EU t n) _ M2 (by omega) (by rw[List.length_append];omega) h2;refine⟨M3,λx=>AF.next (AF.turn ?_) h3,?_⟩
  ·refine AF.via (B5 [13] Tryd.prog kp 1 _ (Y.lpOf Tryd.prog kp 1 (AL Tryd.prog kp 1 o k) 59) (λ_ _ _ _ _ _ _=>rfl) 59 k (BW Tryd.f9 1) (by kernel_rfl) _ M _) ?_;refine AF.via (X4 ..) ?_;rw[FO hlt,AG];refine AF.via (BP _ _ _ (by kernel_rfl) _ _ _ _) ?_;refine AF.via (bn ..) ?_;refine AF.via (Cc 3 ..) ?_;refine AF.via (iS ..) ?_;rw[Eh,GY hlt,AG,gb,AT,Dk Dl hlt,AG,Dm Dl ht];refine AF.via (bl ..) ?_;rw[Y.storeF_eq,hst,Y.ob_some];refine AF.via (iT ..) ?_;rw[gy,AT,show Nat.ble 7 (Y.lenLF (AR t))=true from rfl,AG,show Y.subL (AR t) 0 7=AR t from rfl];refine AF.step c2 ?_;rw[Ca (by omega)];exact AF.here _
  ·rw[hd,CK,Cl,←List.append_assoc];exact h4
theorem Vf{ts:List A7}{v:Value}{lp l xb rb rn rc i n:Nat}{rp:Option Nat}(hO:GX o)(hk:100000+70<=k)(hn:ts.length<=8)(hts:∀t∈ts,FP t)(hlp:(lp,l)∈AJ)(hv:EW K v ts)(hl:rows.length+1600<=100000)(h:St K mp rows AJ (λj=>n<j) M):
  ∃ta tc M',v= .slice ta ts.length tc/\(∀x,AF 59 [(3, .pointer (some ⟨mp,0,none⟩)),(5, .pointer (some ⟨xb,0,none⟩)),(6, .pointer (some ⟨lp,0,none⟩)),(15, .slice (some ⟨rb,0,rp⟩) rn rc),(16, .int .i64 (rn:Int)),(17, .int .i64 (i:Int)),(30, .slice ta ts.length tc),(31, .int .i64 (ts.length:Int)),(32, .int .i64 (ts.length:Int))] (.exit 2) M' (B2 (AH Tryd.prog kp 1 (AL Tryd.prog kp 1 o k) (A6 Tryd.prog kp 1 (AL Tryd.prog kp 1 o k) 59) 59 k (BW Tryd.f9 1)) k (AA 59 (up x [(3, .pointer (some ⟨mp,0,none⟩)),(5, .pointer (some ⟨xb,0,none⟩)),(6, .pointer (some ⟨lp,0,none⟩)),(15, .slice (some ⟨rb,0,rp⟩) rn rc),(16, .int .i64 (rn:Int)),(17, .int .i64 (i:Int)),(30, .slice ta ts.length tc),(31, .int .i64 (ts.length:Int)),(32, .int .i64 (0:Int))])) M))/\St K mp (rows++CK l ts n) AJ (λj'=>Cl ts n<j') M':=by
 obtain⟨ta,tc,rfl,hv⟩:=hv
 by_cases h0:ts= []
 ·subst h0;obtain⟨k,rfl⟩:∃k',k=k'+1:=⟨k - 1,by omega⟩;refine⟨ta,tc,M,rfl,λx=>AF.stop (AF.turn ?_) (by simp),?_⟩
  ·exact AF.via (bp ..) (AF.here _)
  ·rw[show CK l [] n= []from rfl,List.append_nil];exact h
 ·obtain⟨tb,tp,own,rest,rfl,htb⟩:=hv h0;obtain⟨M',h1,h2⟩:=L8 (xb:=xb) (rb:=rb) (rn:=rn) (rc:=rc) (i:=i) (tp:=tp) (rp:=rp) (tc:=tc) hO hk hn hts hlp htb ts.length 0 (by omega) k n rows M (by omega) (by omega) h;exact⟨_,tc,M',rfl,h1,h2⟩
theorem I6(l:Nat):∀(ts:List A7) (n:Nat),(CK l ts n).length<=150*ts.length
 | [],n=>by simp[CK]
 |t::ts,n=>by
  have h1:=Nh t l n;have h2:=I6 l ts (EU t n);simp only[CK,List.length_append,List.length_cons];omega
theorem Ni(r:A5)(n:Nat)(hr:r.tests.length<=8):(G0 r n).length<=1210:=by
 have h:=I6 (n+1) r.tests (n+1)
 simp only[G0,List.length_append,AZ,EX,List.length_cons,List.length_nil]
 have:(if r.tests= []then [ins (Cw 5 2 0) (n+1)]else []).length<=1:=by split<;>simp
 omega
theorem Vg{r:A5}{v:Value}{rest:List Value}{vr:List (Value×A5)}{own:Bool}{rb rc i n:Nat}{rp:Option Nat}(hO:GX o)(hk:100000+80<=k)(hn:r.tests.length<=8)(hts:∀t∈r.tests,FP t)(hi32:i<=32)
  (hrb:K rb=some (.cells own (vr.flatMap B9++rest))) (hi:vr[i]?=some (v,r)) (hv:EW K v r.tests) (hl:rows.length+2000<=100000) (h:St K mp rows [] (λj=>n<j) M):
  ∃M',(∀x,AF 59 [(3, .pointer (some ⟨mp,0,none⟩)),(15, .slice (some ⟨rb,0,rp⟩) vr.length rc),(16, .int .i64 (vr.length:Int)),(17, .int .i64 ((i+1:Nat):Int))] .normal M' (AH Tryd.prog kp 1 (AL Tryd.prog kp 1 o k) (A6 Tryd.prog kp 1 (AL Tryd.prog kp 1 o k) 59) 59 k (BW Tryd.f9 0) (AA 59 (up x [(3, .pointer (some ⟨mp,0,none⟩)),(15, .slice (some ⟨rb,0,rp⟩) vr.length rc),(16, .int .i64 (vr.length:Int)),(17, .int .i64 (i:Int))])) M))/\St K mp (rows++G0 r n) [] (λj=>Cl r.tests (n+1)<j) M':=by
 have hlt:i<vr.length:=(List.getElem?_eq_some_iff.1 hi).1
 have gb:=h.get hrb
 obtain⟨M1,hM1⟩:∃M1,(M.push (.cells true [(.slice none 0 0),(.int Go.IntKind.u32 (0:Int))])).set M.size (.cells true (B9 (v,r)))=M1:=⟨_,rfl⟩
 have gx:M1.get M.size= .cells true (B9 (v,r)):=by rw[←hM1];exact Mem.get_set_same _ _ _
 have s1:M1.size=M.size+1:=by rw[←hM1];rfl
 have hb1:=h.boxE (M':=M1) (b:=M.size) (x:= .cells true (B9 (v,r))) (hM1▸Ext.fresh) (Nat.le_refl _) (by omega) gx
 have hst:Bx Tryd.prog (M.push (.cells true [(.slice none 0 0),(.int Go.IntKind.u32 (0:Int))])) 28 (.agg ⟨B9 (v,r)⟩) (.pointer (some ⟨M.size,0,none⟩))=some M1:=by
  obtain⟨ta,tc,rfl,_⟩:=hv;rw[Cn (n:=2) mc rfl (Mem.get_push_same _ _) (by simp) rfl,←hM1];rfl
 have h1:=hb1.1.label (l:=n+1) (by omega)
 obtain⟨M2,c2,h2⟩:=G1 (k:=k) hO (by omega) (by omega) h1
 have kx:=BQ K M.size (.cells true (B9 (v,r)))
 have g2:=h2.get kx
 have hlp:(M1.size,n+1)∈(M1.size,n+1)::([]:List (Nat×Nat)):=List.mem_cons_self ..
 have hl3:(if r.tests= []then [ins (Cw 5 2 0) (n+1)]else []).length<=1:=by split<;>simp
 obtain⟨M3,q1,q2,h3⟩:∃M3,(r.tests= []->AL Tryd.prog kp 1 o k 15 [ptr mp, .int .i64 5, .int .u8 2, .int .i32 0,ptr M1.size] M2=some (Bl,M3))/\(r.tests≠ []->M3=M2)/\
   St (FB K M.size (.cells true (B9 (v,r)))) mp (rows++AZ++if r.tests= []then [ins (Cw 5 2 0) (n+1)]else []) [(M1.size,n+1)] (λj=>n<j/\j≠n+1) M3:=by
  by_cases e:r.tests= []
  ·obtain⟨M3,c3,h3⟩:=LM (k:=k) (op:=5) (d:=2) (n:=0) hO (by omega) (by simp[AZ];omega) (by simp) hlp h2;refine⟨M3,λ_=>c3,λhn=>absurd e hn,?_⟩;rw[if_pos e];exact h3
  ·refine⟨M2,λhn=>absurd hn e,λ_=>rfl,?_⟩;rw[if_neg e,List.append_nil];exact h2
 have g3:=h3.get kx
 have h3':=h3.frees (fr':=λj=>n+1<j) λj hj=>⟨by omega,by omega⟩
 obtain⟨ta,tc,M4,hve,hloop,h4⟩:=Vf (k:=k) (xb:=M.size) (rb:=rb) (rn:=vr.length) (rc:=rc) (rp:=rp) (i:=i) (l:=n+1) hO (by omega) hn hts hlp (hv.mono hb1.2) (by simp only[List.length_append,AZ,List.length_cons,List.length_nil];omega) h3'
 have htl:=I6 (n+1) r.tests (n+1)
 have g4:=h4.get kx
 obtain⟨M5,c5,h5⟩:=Ts (k:=k) (v:=r.verdict) hO (by omega) (by simp only[List.length_append,AZ,List.length_cons,List.length_nil];omega) h4
 obtain⟨M6,c6,M7,c7,h7⟩:=LN (k:=k) hO (by omega) (by simp only[List.length_append,EX,AZ,List.length_cons,List.length_nil];omega) h5
 have h7:=h7.weak h.glb hb1.2
 refine⟨M7,λx=>AF.turn ?_,by unfold G0;simpa only[List.append_assoc]using h7⟩
 refine AF.via (B5 [6,11] Tryd.prog kp 1 _ (Y.lpOf Tryd.prog kp 1 (AL Tryd.prog kp 1 o k) 59) (λ_ _ _ _ _ _ _=>rfl) 59 k (BW Tryd.f9 0) (by kernel_rfl) _ M _) ?_
 refine AF.via (X5 ..) ?_
 rw[FO hlt,AG]
 refine AF.via (BP _ _ _ (by kernel_rfl) _ _ _ _) ?_
 refine AF.via (iR ..) ?_
 refine AF.via (Cc 3 ..) ?_
 refine AF.via (iU ..) ?_
 rw[Eh,GY hlt,AG,gb,AT,Dk CJ hlt,AG,Dm CJ hi]
 refine AF.via (bj ..) ?_
 rw[Y.storeF_eq,hst,Y.ob_some]
 refine AF.via (iV ..) ?_
 refine AF.step c2 ?_
 rw[g2,AT,show Y.nthL (B9 (v,r)) 0=some v from rfl,BM,hve,Dw]
 have hve':=hve
 by_cases e:r.tests= []
 ·rw[Bf (show Int.ofNat r.tests.length=0 by rw[e];rfl),AG];refine AF.step (q1 e) ?_;refine AF.via (BP _ _ _ (by kernel_rfl) _ _ _ _) ?_;refine AF.via (Tq ..) ?_;refine AF.via (X6 ..) ?_;rw[g3,AT,show Y.nthL (B9 (v,r)) 0=some v from rfl,BM,hve',Dw];refine AF.via (X7 ..) ?_;refine AF.via (Ei _ _ (by kernel_rfl) _ _ _ _) ?_;rw[Y.lpOf_eq,mh];simp only[Int.ofNat_eq_natCast];refine AF.loop (hloop _) λx'=>?_;refine AF.via (X8 ..) ?_;rw[g4,AT,show Y.nthL (B9 (v,r)) 1=some (.int .u32 r.verdict)from rfl,BM,BD,Bt,AG];refine AF.step c5 ?_;refine AF.step c6 ?_;refine AF.step c7 ?_;rw[Ca (by omega)];exact AF.here _
 ·obtain rfl:=q2 e;rw[Bi (show Int.ofNat r.tests.length≠0 by intro h;exact e (List.eq_nil_of_length_eq_zero (by simpa using h))),BH];refine AF.via (BP _ _ _ (by kernel_rfl) _ _ _ _) ?_;refine AF.via (Tq ..) ?_;refine AF.via (X6 ..) ?_;rw[g3,AT,show Y.nthL (B9 (v,r)) 0=some v from rfl,BM,hve',Dw];refine AF.via (X7 ..) ?_;refine AF.via (Ei _ _ (by kernel_rfl) _ _ _ _) ?_;rw[Y.lpOf_eq,mh];simp only[Int.ofNat_eq_natCast];refine AF.loop (hloop _) λx'=>?_;refine AF.via (X8 ..) ?_;rw[g4,AT,show Y.nthL (B9 (v,r)) 1=some (.int .u32 r.verdict)from rfl,BM,BD,Bt,AG];refine AF.step c5 ?_;refine AF.step c6 ?_;refine AF.step c7 ?_;rw[Ca (by omega)];exact AF.here _
theorem L9{rs:List A5}{rest:List Value}{vr:List (Value×A5)}{own:Bool}{rb rc:Nat}{rp:Option Nat}(hO:GX o)(hk:100000+80<=k)(hT:O7 rs)(hrs:vr.map (·.2)=rs)(hrb:K rb=some (.cells own (vr.flatMap B9++rest)))(hv:∀x∈vr,EW K x.1 x.2.tests):
  ∀(d i:Nat),vr.length=i+d->∀(jj n:Nat) (rows:List A9) (M:Mem),d+1<=jj->rows.length+1210*d+2000<=100000->St K mp rows [] (λj=>n<j) M->
  ∃M',(∀x,AF 59 [(3, .pointer (some ⟨mp,0,none⟩)),(15, .slice (some ⟨rb,0,rp⟩) vr.length rc),(16, .int .i64 (vr.length:Int)),(17, .int .i64 (vr.length:Int))] (.exit 0) M' (B2 (AH Tryd.prog kp 1 (AL Tryd.prog kp 1 o k) (A6 Tryd.prog kp 1 (AL Tryd.prog kp 1 o k) 59) 59 k (BW Tryd.f9 0)) jj (AA 59 (up x [(3, .pointer (some ⟨mp,0,none⟩)),(15, .slice (some ⟨rb,0,rp⟩) vr.length rc),(16, .int .i64 (vr.length:Int)),(17, .int .i64 (i:Int))])) M))/\St K mp (rows++Bv (rs.drop i) n) [] (λj'=>O9 (rs.drop i) n<j') M'
 |0,i,hi,jj,n,rows,M,hjj,_,h=>by
  obtain⟨jj,rfl⟩:∃j',jj=j'+1:=⟨jj - 1,by omega⟩;obtain rfl:i=vr.length:=by omega
  have hlen:rs.length=vr.length:=by rw[←hrs,List.length_map]
  refine⟨M,λx=>AF.stop (AF.turn ?_) (by simp),?_⟩
  ·refine AF.via (B5 [6,11] Tryd.prog kp 1 _ (Y.lpOf Tryd.prog kp 1 (AL Tryd.prog kp 1 o k) 59) (λ_ _ _ _ _ _ _=>rfl) 59 k (BW Tryd.f9 0) (by kernel_rfl) _ M _) ?_;refine AF.via (X5 ..) ?_;rw[I4 (by omega),BH];exact AF.here _
  ·rw[←hlen,List.drop_length,show Bv [] n= []from rfl,List.append_nil];exact h
 |d+1,i,hi,jj,n,rows,M,hjj,hl,h=>by
  obtain⟨jj,rfl⟩:∃j',jj=j'+1:=⟨jj - 1,by omega⟩;have hlen:rs.length=vr.length:=by rw[←hrs,List.length_map]
  have h32:=hT.len;have hlt:i<vr.length:=by omega
  obtain⟨p,hp⟩:∃p,vr[i]?=some p:=⟨_,List.getElem?_eq_getElem hlt⟩;obtain⟨v,r⟩:=p;have hpm:(v,r)∈vr:=List.mem_of_getElem? hp;have hrm:r∈rs:=by rw[←hrs];exact List.mem_map.2 ⟨_,hpm,rfl⟩
  have hri:rs[i]?=some r:=by rw[←hrs,List.getElem?_map,hp];rfl
  have hd:rs.drop i=r::rs.drop (i+1):=by
   rw[List.drop_eq_getElem_cons (by omega)];congr 1;rw[List.getElem?_eq_getElem (by omega)]at hri;exact Option.some.inj hri
  obtain⟨M2,h1,h2⟩:=Vg (k:=k) (rc:=rc) (rp:=rp) hO hk (hT.tests r hrm) (hT.ok r hrm) (by omega) hrb hp (hv _ hpm) (by omega) h;have htl:=Ni r n (hT.tests r hrm);obtain⟨M3,h3,h4⟩:=L9 (rc:=rc) (rp:=rp) hO hk hT hrs hrb hv d (i+1) (by omega) jj (Cl r.tests (n+1)) _ M2 (by omega) (by rw[List.length_append];omega) h2;refine⟨M3,λx=>AF.next (h1 x) h3,?_⟩;rw[hd,Bv,O9,←List.append_assoc];exact h4
theorem La:∀(rs:List A5) (n:Nat),(∀r∈rs,r.tests.length<=8)->(Bv rs n).length<=1210*rs.length
 | [],n,_=>by simp[Bv]
 |r::rs,n,h=>by
  have h1:=Ni r n (h r (by simp));have h2:=La rs (Cl r.tests (n+1)) λr hr=>h r (by simp[hr]);simp only[Bv,List.length_append,List.length_cons];omega
theorem iW{a:Option Addr}{n c:Nat}:IP Tryd.prog 9 (.slice a n c)=true:=by kernel_rfl
theorem St.new(h:Hp M K [])(h0:K 0=some (.cells false gl)):St K M.size [] [] (λj=>0<j) (M.push (.cells true [.slice none 0 0])):=by
 refine⟨λ_=>none,h.push [] [] 5,h0,λx hx=>by simp at hx,by simp,λl hl=>⟨hl,rfl,λx hx=>by simp at hx,λr hr=>by simp at hr⟩,λl q hq=>(by cases hq),λr hr=>by simp at hr⟩
theorem Tp{rs:List A5}{v:Value}(hO:GX o)(hk:100000+100<=k)(hT:O7 rs)(hv:DH K v rs)(h:Hp M K [])(h0:K 0=some (.cells false gl)):
  ∃v' M' mp,AL Tryd.prog kp 1 o k 9 [v] M=some (v',M')/\M'.get mp= .cells true [v']/\Hp M' K [(mp,HN (B6 (BF rs)))]:=by
 obtain⟨k,rfl⟩:∃k',k=k'+1:=⟨k - 1,by omega⟩
 have s0:=St.new h h0
 obtain⟨M1,c1,h1⟩:=Oa (k:=k) (op:=11) (d:=6) (s:=1) hO (by omega) (by simp) (by simp) s0
 obtain⟨M2,c2,h2⟩:=Ho (k:=k) (z:=8) (d:=7) (s:=1) (n:=8) hO (by omega) (by simp) (by simp) h1
 obtain⟨ra,rc,rfl,hv⟩:=hv
 have hlen:=La rs 0 hT.tests
 have h32:=hT.len
 obtain⟨M3,hloop,h3⟩:∃M3,(∀x,AF 59 [(3,ptr M.size),(15, .slice ra rs.length rc),(16, .int .i64 (rs.length:Int)),(17, .int .i64 (rs.length:Int))] (.exit 0) M3 (B2 (AH Tryd.prog kp 1 (AL Tryd.prog kp 1 o k) (A6 Tryd.prog kp 1 (AL Tryd.prog kp 1 o k) 59) 59 k (BW Tryd.f9 0)) k (AA 59 (up x [(3,ptr M.size),(15, .slice ra rs.length rc),(16, .int .i64 (rs.length:Int)),(17, .int .i64 (0:Int))])) M2))/\
   St K M.size ([]++ [ins (Ba 11 6 1) 0]++ [ins (BG 8 7 1 8) 0]++Bv rs 0) [] (λj'=>O9 rs 0<j') M3:=by
  by_cases e:rs= []
  ·subst e;obtain⟨k,rfl⟩:∃k',k=k'+1:=⟨k - 1,by omega⟩;refine⟨M2,λx=>AF.stop (AF.turn ?_) (by simp),by rw[show Bv [] 0= []from rfl,List.append_nil];exact h2⟩;exact AF.via (bq ..) (AF.here _)
  ·obtain⟨rb,rp,own,rest,vr,rfl,hrs,hrb,hvt⟩:=hv e;have hl2:rs.length=vr.length:=by rw[←hrs,List.length_map]
   obtain⟨M3,q1,q2⟩:=L9 (mp:=M.size) (rc:=rc) (rp:=rp) (k:=k) hO (by omega) hT hrs hrb hvt vr.length 0 (by omega) k 0 _ M2 (by omega) (by simp;omega) h2;refine⟨M3,λx=>?_,q2⟩;rw[hl2];exact q1 x
 obtain⟨M4,c4,h4⟩:=G1 (k:=k) hO (by omega) (by simp only[List.length_append,List.length_cons,List.length_nil];omega) h3
 obtain⟨M5,c5,h5⟩:=Ts (k:=k) (v:=0) hO (by omega) (by simp only[List.length_append,List.length_cons,List.length_nil,AZ];omega) h4
 have h6:=h5.made
 rw[show []++ [ins (Ba 11 6 1) 0]++ [ins (BG 8 7 1 8) 0]++Bv rs 0++AZ++EX 0=BF rs by simp only[BF,List.nil_append,List.append_assoc,List.cons_append]]at h6
 obtain⟨_,_,_,⟨a,rfl⟩,gm,_⟩:=h6.set
 have gm':M5.get M.size= .cells true [.slice a (B6 (BF rs)).length (B6 (BF rs)).length]:=gm
 refine⟨.slice a (B6 (BF rs)).length (B6 (BF rs)).length,M5,M.size,Bs 59 (hO.off 9 (by decide) _ _) ph pj n13 ?_ iW,gm',h6⟩
 refine Eq.trans (Vh ..) ?_
 refine step c1 ?_
 refine step c2 ?_
 rw[Y.lpOf_eq,Y.loopC_body]
 simp only[Int.ofNat_eq_natCast]
 refine L5 (hloop _) λx'=>?_
 refine Eq.trans (SC ..) ?_
 refine step c4 ?_
 refine step c5 ?_
 rw[gm',AT,show Y.nthL [Value.slice a (B6 (BF rs)).length (B6 (BF rs)).length] 0=some (.slice a (B6 (BF rs)).length (B6 (BF rs)).length)from rfl,BM,Dw]
end
end
end Go.Proofs.YtgjflcgmieiafaaDoor
namespace Go.Cmp
def CZ:List A5->Nat->Option (Nat×Int)
 | [],_=>none
 |r::l,i=>if 8<r.tests.length then some (i,3)else if r.tests.all F0=true then CZ l (i+1)else some (i,1)
def C5(rs:List A5):Nat×Int:=if 32<rs.length then(0,3)else(CZ rs 0).getD (0,0)
end Go.Cmp
namespace Go.Proofs.YtgjflcgmieiafaaDoor
open Go Go.DI Go.DI.Kit Go.Proofs Go.Cmp
noncomputable section
theorem m7:Tryd.prog.funcs[8]?=some Tryd.f8:=by kernel_rfl
theorem m8:Tryd.f8.body=some (AN Tryd.f8):=by kernel_rfl
theorem pb:Tryd.f8.ntmps=36:=by kernel_rfl
theorem sk{a:Value}:max [a].length Tryd.f8.ntmps=36:=by rw[pb];rfl
theorem m9{a b:Int}:IP Tryd.prog 8 (.tuple ⟨[.int .i64 a, .int .i64 b]⟩)=true:=by kernel_rfl
section
variable{α:Type}(x:Nat->Value)(cf:Y.CF α)(L:Y.LK α)(k:Nat)(m:Mem)
theorem LL(b:Nat)(w4 w11 w12 w13 u:Value)(q:AE->Mem->Option α):Y.opsF (List.drop 5 Nb) Tryd.prog kp 1 (Y.cfT Tryd.prog cf) 36 Nb (AA 36 (up x [(4,w4),(5, .pointer (some ⟨b,0,none⟩)),(11,w11),(12,w12),(13,w13),(17,u)])) m q=
 Y.storeF Tryd.prog m 28 u (.pointer (some ⟨b,0,none⟩)) λm'=>q (AA 36 (up (up x [(17,u)]) [(4,w4),(5, .pointer (some ⟨b,0,none⟩)),(11,w11),(12,w12),(13,w13)])) m':=by kernel_rfl
theorem O3(b:Nat)(w4 w5 w11 w12 w13 w24 w25 w26 u:Value)(q:AE->Mem->Option α):Y.opsF (List.drop 3 Js) Tryd.prog kp 1 (Y.cfT Tryd.prog cf) 36 Js (AA 36 (up x [(4,w4),(5,w5),(7, .pointer (some ⟨b,0,none⟩)),(11,w11),(12,w12),(13,w13),(24,w24),(25,w25),(26,w26),(29,u)])) m q=
 Y.storeF Tryd.prog m 24 u (.pointer (some ⟨b,0,none⟩)) λm'=>q (AA 36 (up (up x [(29,u)]) [(4,w4),(5,w5),(7, .pointer (some ⟨b,0,none⟩)),(11,w11),(12,w12),(13,w13),(24,w24),(25,w25),(26,w26)])) m':=by kernel_rfl
theorem JJ(t:AE)(q:Y.ExK α):Y.codeF (Y.loopC Pt 0) Tryd.prog kp 1 (Y.cfT Tryd.prog cf) L 36 k t m q=Y.opsF Nb Tryd.prog kp 1 (Y.cfT Tryd.prog cf) 36 Nb t m λt m=>q .normal t m:=by kernel_rfl
theorem L3(t:AE)(q:Y.ExK α):Y.codeF (Y.loopC Pt 1) Tryd.prog kp 1 (Y.cfT Tryd.prog cf) L 36 k t m q=Y.opsF Tm Tryd.prog kp 1 (Y.cfT Tryd.prog cf) 36 Tm t m λt m=>q .normal t m:=by kernel_rfl
theorem Jt(t:AE)(q:Y.ExK α):Y.codeF (Y.loopC V8 0) Tryd.prog kp 1 (Y.cfT Tryd.prog cf) L 36 k t m q=Y.opsF Js Tryd.prog kp 1 (Y.cfT Tryd.prog cf) 36 Js t m λt m=>q .normal t m:=by kernel_rfl
theorem bU(w4 w5 w11 w12 w13 w24:Value)(q:Y.ExK α):Y.codeF (BW Tryd.f8 1) Tryd.prog kp 1 (Y.cfT Tryd.prog cf) L 36 k (AA 36 (up x [(4,w4),(5,w5),(11,w11),(12,w12),(13,w13),(24,w24),(25, .int .i64 (0:Nat)),(26, .int .i64 (0:Int))])) m q=
 q (.exit 2) (AA 36 (up (up x [(27, .bool false)]) [(4,w4),(5,w5),(11,w11),(12,w12),(13,w13),(24,w24),(25, .int .i64 (0:Nat)),(26, .int .i64 (0:Int))])) m:=by kernel_rfl
theorem bV(w11:Value)(q:Y.ExK α):Y.codeF (BW Tryd.f8 0) Tryd.prog kp 1 (Y.cfT Tryd.prog cf) L 36 k (AA 36 (up x [(11,w11),(12, .int .i64 (0:Nat)),(13, .int .i64 (0:Int))])) m q=
 q (.exit 0) (AA 36 (up (up x [(14, .bool false)]) [(11,w11),(12, .int .i64 (0:Nat)),(13, .int .i64 (0:Int))])) m:=by kernel_rfl
end
theorem iL:Y.loopC Pt 2=BW Tryd.f8 1:=by kernel_rfl
theorem sm{F:Nat->Value}{a b:Nat×Value}(h1:F a.1=a.2)(h2:F b.1=b.2):∀p∈ [a,b],F p.1=p.2:=by
 intro p hp
 simp only[List.mem_cons,List.not_mem_nil,or_false]at hp
 rcases hp with rfl|rfl
 ·exact h1
 ·exact h2
section
variable{K:CU}{M:Mem}{o:DT}{k:Nat}
theorem bW{hs:List (Nat×Bq)}(h:Hp M K hs)(h0:K 0=some (.cells false gl)):M.top/\1<=M.size/\M.get 0= .cells false gl:=⟨h.top,by have:=h.lt h0;omega,h.get h0⟩
theorem Nc{ts:List A7}{rest:List Value}{own:Bool}{tb tc xb rb rn rc i:Nat}{tp rp:Option Nat}(hO:GX o)(hk:100<=k)(hn:ts.length<=8)(h0:K 0=some (.cells false gl))(htb:K tb=some (.cells own (ts.flatMap AR++rest))):
  ∀(d j:Nat),ts.length=j+d->∀(jj:Nat) (M:Mem),d+1<=jj->Hp M K []->
  ∃M',Hp M' K []/\((ts.drop j).all F0=true->∀x,AF 36 [(4, .int .i64 (i:Int)),(5, .pointer (some ⟨xb,0,none⟩)),(11, .slice (some ⟨rb,0,rp⟩) rn rc),(12, .int .i64 (rn:Int)),(13, .int .i64 (i:Int)),(24, .slice (some ⟨tb,0,tp⟩) ts.length tc),(25, .int .i64 (ts.length:Int)),(26, .int .i64 (ts.length:Int))] (.exit 2) M' (B2 (AH Tryd.prog kp 1 (AL Tryd.prog kp 1 o k) (A6 Tryd.prog kp 1 (AL Tryd.prog kp 1 o k) 36) 36 k (BW Tryd.f8 1)) jj (AA 36 (up x [(4, .int .i64 (i:Int)),(5, .pointer (some ⟨xb,0,none⟩)),(11, .slice (some ⟨rb,0,rp⟩) rn rc),(12, .int .i64 (rn:Int)),(13, .int .i64 (i:Int)),(24, .slice (some ⟨tb,0,tp⟩) ts.length tc),(25, .int .i64 (ts.length:Int)),(26, .int .i64 (j:Int))])) M))/\
   ((ts.drop j).all F0=false->∀x,AF 36 [(2, .int .i64 (i:Int)),(3, .int .i64 1)] .ret M' (B2 (AH Tryd.prog kp 1 (AL Tryd.prog kp 1 o k) (A6 Tryd.prog kp 1 (AL Tryd.prog kp 1 o k) 36) 36 k (BW Tryd.f8 1)) jj (AA 36 (up x [(4, .int .i64 (i:Int)),(5, .pointer (some ⟨xb,0,none⟩)),(11, .slice (some ⟨rb,0,rp⟩) rn rc),(12, .int .i64 (rn:Int)),(13, .int .i64 (i:Int)),(24, .slice (some ⟨tb,0,tp⟩) ts.length tc),(25, .int .i64 (ts.length:Int)),(26, .int .i64 (j:Int))])) M))
 |0,j,hj,jj,M,hjj,h=>by
  obtain⟨jj,rfl⟩:∃j',jj=j'+1:=⟨jj - 1,by omega⟩;obtain rfl:j=ts.length:=by omega
  refine⟨M,h,λ_ x=>AF.stop (AF.turn ?_) (by simp),λha=>by rw[List.drop_length]at ha;cases ha⟩;refine AF.via (B5 [10] Tryd.prog kp 1 _ (Y.lpOf Tryd.prog kp 1 (AL Tryd.prog kp 1 o k) 36) (λ_ _ _ _ _ _ _=>rfl) 36 k (BW Tryd.f8 1) (by kernel_rfl) _ M _) ?_;refine AF.via (O4 ..) ?_;rw[I4 (by omega),BH];exact AF.here _
 |d+1,j,hj,jj,M,hjj,h=>by
  obtain⟨jj,rfl⟩:∃j',jj=j'+1:=⟨jj - 1,by omega⟩;have hlt:j<ts.length:=by omega
  obtain⟨t,ht⟩:∃t,ts[j]?=some t:=⟨_,List.getElem?_eq_getElem hlt⟩
  have hd:ts.drop j=t::ts.drop (j+1):=by
   rw[List.drop_eq_getElem_cons hlt];congr 1;rw[List.getElem?_eq_getElem hlt]at ht;exact Option.some.inj ht
  have gb:=h.get htb;obtain⟨M1,hM1⟩:∃M1,(M.push (.cells true [(.bool false),(.int .i64 (0:Int)),(.int .i64 (0:Int)),(.int .i64 (0:Int)),(.int .u64 (0:Int)),(.int .u64 (0:Int)),(.int .u64 (0:Int))])).set M.size (.cells true (AR t))=M1:=⟨_,rfl⟩;have gy:M1.get M.size= .cells true (AR t):=by rw[←hM1];exact Mem.get_set_same _ _ _
  have h1:Hp M1 K []:=h.ext (hM1▸Ext.fresh)
  have hst:Bx Tryd.prog (M.push (.cells true [(.bool false),(.int .i64 (0:Int)),(.int .i64 (0:Int)),(.int .i64 (0:Int)),(.int .u64 (0:Int)),(.int .u64 (0:Int)),(.int .u64 (0:Int))])) 24 (.agg ⟨AR t⟩) (.pointer (some ⟨M.size,0,none⟩))=some M1:=by
   rw[Cn (n:=7) mb rfl (Mem.get_push_same _ _) (by simp) rfl,←hM1];rfl
  obtain⟨M2,c2,x2⟩:=iM (t:=t) (k:=k) hO (by omega) (bW h1 h0);have h2:=h1.ext x2;obtain⟨M3,h3,q1,q2⟩:=Nc (xb:=xb) (rb:=rb) (rn:=rn) (rc:=rc) (i:=i) (tp:=tp) (rp:=rp) (tc:=tc) hO hk hn h0 htb d (j+1) (by omega) jj M2 (by omega) h2;cases hm:F0 t with
  |true=>
   refine⟨M3,h3,λha x=>AF.next (AF.turn ?_) (q1 (by rw[hd,List.all_cons,hm]at ha;exact ha)),λha x=>AF.next (AF.turn ?_) (q2 (by rw[hd,List.all_cons,hm]at ha;exact ha))⟩
   ·refine AF.via (B5 [10] Tryd.prog kp 1 _ (Y.lpOf Tryd.prog kp 1 (AL Tryd.prog kp 1 o k) 36) (λ_ _ _ _ _ _ _=>rfl) 36 k (BW Tryd.f8 1) (by kernel_rfl) _ M _) ?_;refine AF.via (O4 ..) ?_;rw[FO hlt,AG];refine AF.via (BP _ _ _ (by kernel_rfl) _ _ _ _) ?_;refine AF.via (Jt ..) ?_;refine AF.via (Cc 3 ..) ?_;refine AF.via (Ry ..) ?_;rw[Eh,GY hlt,AG,gb,AT,Dk Dl hlt,AG,Dm Dl ht];refine AF.via (O3 ..) ?_;rw[Y.storeF_eq,hst,Y.ob_some];refine AF.via (Rz ..) ?_;rw[gy,AT,show Nat.ble 7 (Y.lenLF (AR t))=true from rfl,AG,show Y.subL (AR t) 0 7=AR t from rfl];refine AF.step c2 ?_;rw[hm,HS,AG,Ca (by omega)];exact AF.here _
   ·refine AF.via (B5 [10] Tryd.prog kp 1 _ (Y.lpOf Tryd.prog kp 1 (AL Tryd.prog kp 1 o k) 36) (λ_ _ _ _ _ _ _=>rfl) 36 k (BW Tryd.f8 1) (by kernel_rfl) _ M _) ?_;refine AF.via (O4 ..) ?_;rw[FO hlt,AG];refine AF.via (BP _ _ _ (by kernel_rfl) _ _ _ _) ?_;refine AF.via (Jt ..) ?_;refine AF.via (Cc 3 ..) ?_;refine AF.via (Ry ..) ?_;rw[Eh,GY hlt,AG,gb,AT,Dk Dl hlt,AG,Dm Dl ht];refine AF.via (O3 ..) ?_;rw[Y.storeF_eq,hst,Y.ob_some];refine AF.via (Rz ..) ?_;rw[gy,AT,show Nat.ble 7 (Y.lenLF (AR t))=true from rfl,AG,show Y.subL (AR t) 0 7=AR t from rfl];refine AF.step c2 ?_;rw[hm,HS,AG,Ca (by omega)];exact AF.here _
  |false=>
   refine⟨M2,h2,λha=>(by rw[hd,List.all_cons,hm]at ha;cases ha),λ_ x=>AF.stop (AF.turn ?_) (by simp)⟩;refine AF.via (B5 [10] Tryd.prog kp 1 _ (Y.lpOf Tryd.prog kp 1 (AL Tryd.prog kp 1 o k) 36) (λ_ _ _ _ _ _ _=>rfl) 36 k (BW Tryd.f8 1) (by kernel_rfl) _ M _) ?_;refine AF.via (O4 ..) ?_;rw[FO hlt,AG];refine AF.via (BP _ _ _ (by kernel_rfl) _ _ _ _) ?_;refine AF.via (Jt ..) ?_;refine AF.via (Cc 3 ..) ?_;refine AF.via (Ry ..) ?_;rw[Eh,GY hlt,AG,gb,AT,Dk Dl hlt,AG,Dm Dl ht];refine AF.via (O3 ..) ?_;rw[Y.storeF_eq,hst,Y.ob_some];refine AF.via (Rz ..) ?_;rw[gy,AT,show Nat.ble 7 (Y.lenLF (AR t))=true from rfl,AG,show Y.subL (AR t) 0 7=AR t from rfl];refine AF.step c2 ?_;rw[hm,HS,BH];exact AF.at (sm rfl rfl)
theorem X2{ts:List A7}{v:Value}{xb rb rn rc i:Nat}{rp:Option Nat}(hO:GX o)(hk:100<=k)(hn:ts.length<=8)(h0:K 0=some (.cells false gl))(hv:EW K v ts)(h:Hp M K []):
  ∃ta tc M',v= .slice ta ts.length tc/\Hp M' K []/\(ts.all F0=true->∀x,AF 36 [(4, .int .i64 (i:Int)),(5, .pointer (some ⟨xb,0,none⟩)),(11, .slice (some ⟨rb,0,rp⟩) rn rc),(12, .int .i64 (rn:Int)),(13, .int .i64 (i:Int)),(24, .slice ta ts.length tc),(25, .int .i64 (ts.length:Int)),(26, .int .i64 (ts.length:Int))] (.exit 2) M' (B2 (AH Tryd.prog kp 1 (AL Tryd.prog kp 1 o k) (A6 Tryd.prog kp 1 (AL Tryd.prog kp 1 o k) 36) 36 k (BW Tryd.f8 1)) k (AA 36 (up x [(4, .int .i64 (i:Int)),(5, .pointer (some ⟨xb,0,none⟩)),(11, .slice (some ⟨rb,0,rp⟩) rn rc),(12, .int .i64 (rn:Int)),(13, .int .i64 (i:Int)),(24, .slice ta ts.length tc),(25, .int .i64 (ts.length:Int)),(26, .int .i64 (0:Int))])) M))/\
   (ts.all F0=false->∀x,AF 36 [(2, .int .i64 (i:Int)),(3, .int .i64 1)] .ret M' (B2 (AH Tryd.prog kp 1 (AL Tryd.prog kp 1 o k) (A6 Tryd.prog kp 1 (AL Tryd.prog kp 1 o k) 36) 36 k (BW Tryd.f8 1)) k (AA 36 (up x [(4, .int .i64 (i:Int)),(5, .pointer (some ⟨xb,0,none⟩)),(11, .slice (some ⟨rb,0,rp⟩) rn rc),(12, .int .i64 (rn:Int)),(13, .int .i64 (i:Int)),(24, .slice ta ts.length tc),(25, .int .i64 (ts.length:Int)),(26, .int .i64 (0:Int))])) M)):=by
 obtain⟨ta,tc,rfl,hv⟩:=hv
 by_cases e:ts= []
 ·subst e;obtain⟨k,rfl⟩:∃k',k=k'+1:=⟨k - 1,by omega⟩;refine⟨ta,tc,M,rfl,h,λ_ x=>AF.stop (AF.turn ?_) (by simp),λha=>by cases ha⟩;exact AF.via (bU ..) (AF.here _)
 ·obtain⟨tb,tp,own,rest,rfl,htb⟩:=hv e;obtain⟨M',h1,h2,h3⟩:=Nc (xb:=xb) (rb:=rb) (rn:=rn) (rc:=rc) (i:=i) (tp:=tp) (rp:=rp) (tc:=tc) (k:=k) hO hk hn h0 htb ts.length 0 (by omega) k M (by omega) h;exact⟨_,tc,M',rfl,h1,h2,h3⟩
theorem Nd{rs:List A5}{rest:List Value}{vr:List (Value×A5)}{own:Bool}{rb rc:Nat}{rp:Option Nat}(hO:GX o)(hk:200<=k)(hlen:rs.length<=32)(hrs:vr.map (·.2)=rs)(h0:K 0=some (.cells false gl))(hrb:K rb=some (.cells own (vr.flatMap B9++rest)))(hv:∀x∈vr,EW K x.1 x.2.tests):
  ∀(d i:Nat),vr.length=i+d->∀(jj:Nat) (M:Mem),d+1<=jj->Hp M K []->
  ∃M',Hp M' K []/\(CZ (rs.drop i) i=none->∀x,AF 36 [(11, .slice (some ⟨rb,0,rp⟩) vr.length rc),(12, .int .i64 (vr.length:Int)),(13, .int .i64 (vr.length:Int))] (.exit 0) M' (B2 (AH Tryd.prog kp 1 (AL Tryd.prog kp 1 o k) (A6 Tryd.prog kp 1 (AL Tryd.prog kp 1 o k) 36) 36 k (BW Tryd.f8 0)) jj (AA 36 (up x [(11, .slice (some ⟨rb,0,rp⟩) vr.length rc),(12, .int .i64 (vr.length:Int)),(13, .int .i64 (i:Int))])) M))/\
   (∀a e,CZ (rs.drop i) i=some (a,e)->∀x,AF 36 [(2, .int .i64 (a:Int)),(3, .int .i64 e)] .ret M' (B2 (AH Tryd.prog kp 1 (AL Tryd.prog kp 1 o k) (A6 Tryd.prog kp 1 (AL Tryd.prog kp 1 o k) 36) 36 k (BW Tryd.f8 0)) jj (AA 36 (up x [(11, .slice (some ⟨rb,0,rp⟩) vr.length rc),(12, .int .i64 (vr.length:Int)),(13, .int .i64 (i:Int))])) M))
 |0,i,hi,jj,M,hjj,h=>by
  obtain⟨jj,rfl⟩:∃j',jj=j'+1:=⟨jj - 1,by omega⟩;obtain rfl:i=vr.length:=by omega
  have hl:rs.length=vr.length:=by rw[←hrs,List.length_map]
  refine⟨M,h,λ_ x=>AF.stop (AF.turn ?_) (by simp),λa e ha=>by rw[←hl,List.drop_length]at ha;cases ha⟩;refine AF.via (B5 [5,8] Tryd.prog kp 1 _ (Y.lpOf Tryd.prog kp 1 (AL Tryd.prog kp 1 o k) 36) (λ_ _ _ _ _ _ _=>rfl) 36 k (BW Tryd.f8 0) (by kernel_rfl) _ M _) ?_;refine AF.via (L4 ..) ?_;rw[I4 (by omega),BH];exact AF.here _
 |d+1,i,hi,jj,M,hjj,h=>by
  obtain⟨jj,rfl⟩:∃j',jj=j'+1:=⟨jj - 1,by omega⟩;have hl:rs.length=vr.length:=by rw[←hrs,List.length_map]
  have hlt:i<vr.length:=by omega
  obtain⟨p,hp⟩:∃p,vr[i]?=some p:=⟨_,List.getElem?_eq_getElem hlt⟩;obtain⟨v,r⟩:=p;have hpm:(v,r)∈vr:=List.mem_of_getElem? hp;have hri:rs[i]?=some r:=by rw[←hrs,List.getElem?_map,hp];rfl
  have hd:rs.drop i=r::rs.drop (i+1):=by
   rw[List.drop_eq_getElem_cons (by omega)];congr 1;rw[List.getElem?_eq_getElem (by omega)]at hri;exact Option.some.inj hri
  have gb:=h.get hrb;have hvt:EW K v r.tests:=hv _ hpm;obtain⟨M1,hM1⟩:∃M1,(M.push (.cells true [(.slice none 0 0),(.int Go.IntKind.u32 (0:Int))])).set M.size (.cells true (B9 (v,r)))=M1:=⟨_,rfl⟩;have gx:M1.get M.size= .cells true (B9 (v,r)):=by rw[←hM1];exact Mem.get_set_same _ _ _
  have h1:Hp M1 K []:=h.ext (hM1▸Ext.fresh);obtain⟨ta0,tc0,hv0,_⟩:=id hvt
  have hst:Bx Tryd.prog (M.push (.cells true [(.slice none 0 0),(.int Go.IntKind.u32 (0:Int))])) 28 (.agg ⟨B9 (v,r)⟩) (.pointer (some ⟨M.size,0,none⟩))=some M1:=by
   subst hv0;rw[Cn (n:=2) mc rfl (Mem.get_push_same _ _) (by simp) rfl,←hM1];rfl
  by_cases h8:8<r.tests.length
  ·have e:CZ (rs.drop i) i=some (i,3):=by rw[hd,CZ,if_pos h8]
   refine⟨M1,h1,λha=>(by rw[e]at ha;cases ha),λa e' ha x=>AF.stop (AF.turn ?_) (by simp)⟩;obtain⟨rfl,rfl⟩:i=a/\3=e':=by rw[e]at ha;cases ha;exact⟨rfl,rfl⟩
   refine AF.via (B5 [5,8] Tryd.prog kp 1 _ (Y.lpOf Tryd.prog kp 1 (AL Tryd.prog kp 1 o k) 36) (λ_ _ _ _ _ _ _=>rfl) 36 k (BW Tryd.f8 0) (by kernel_rfl) _ M _) ?_;refine AF.via (L4 ..) ?_;rw[FO hlt,AG];refine AF.via (BP _ _ _ (by kernel_rfl) _ _ _ _) ?_;refine AF.via (JJ ..) ?_;refine AF.via (Cc 5 ..) ?_;refine AF.via (O5 ..) ?_;rw[Eh,GY hlt,AG,gb,AT,Dk CJ hlt,AG,Dm CJ hp];refine AF.via (LL ..) ?_;rw[Y.storeF_eq,hst,Y.ob_some];refine AF.via (O6 ..) ?_;rw[gx,AT,show Y.nthL (B9 (v,r)) 0=some v from rfl,BM,hv0,Dw,Ee (show(8:Int)<Int.ofNat r.tests.length by show(8:Int)< (r.tests.length:Int);omega),AG];exact AF.at (sm rfl rfl)
  ·have h8f:Y.ltF 8 (Int.ofNat r.tests.length)=false:=C3 (by show¬(8:Int)< (r.tests.length:Int);omega);obtain⟨ta,tc,M2,hve,h2,q1,q2⟩:=X2 (k:=k) (xb:=M.size) (rb:=rb) (rn:=vr.length) (rc:=rc) (i:=i) (rp:=rp) hO (by omega) (by omega) h0 hvt h1;cases hm:r.tests.all F0 with
   |true=>
    have e:CZ (rs.drop i) i=CZ (rs.drop (i+1)) (i+1):=by rw[hd,CZ,if_neg h8,if_pos hm]
    obtain⟨M3,h3,w1,w2⟩:=Nd (rc:=rc) (rp:=rp) hO hk hlen hrs h0 hrb hv d (i+1) (by omega) jj M2 (by omega) h2;rw[e];refine⟨M3,h3,λha x=>AF.next (AF.turn ?_) (w1 ha),λa e' ha x=>AF.next (AF.turn ?_) (w2 a e' ha)⟩
    ·have hve':=hve;refine AF.via (B5 [5,8] Tryd.prog kp 1 _ (Y.lpOf Tryd.prog kp 1 (AL Tryd.prog kp 1 o k) 36) (λ_ _ _ _ _ _ _=>rfl) 36 k (BW Tryd.f8 0) (by kernel_rfl) _ M _) ?_;refine AF.via (L4 ..) ?_;rw[FO hlt,AG];refine AF.via (BP _ _ _ (by kernel_rfl) _ _ _ _) ?_;refine AF.via (JJ ..) ?_;refine AF.via (Cc 5 ..) ?_;refine AF.via (O5 ..) ?_;rw[Eh,GY hlt,AG,gb,AT,Dk CJ hlt,AG,Dm CJ hp];refine AF.via (LL ..) ?_;rw[Y.storeF_eq,hst,Y.ob_some];refine AF.via (O6 ..) ?_;rw[gx,AT,show Y.nthL (B9 (v,r)) 0=some v from rfl,BM,hve,Dw,h8f,BH];refine AF.via (BP _ _ _ (by kernel_rfl) _ _ _ _) ?_;refine AF.via (L3 ..) ?_;refine AF.via (SA ..) ?_;rw[gx,AT,show Y.nthL (B9 (v,r)) 0=some v from rfl,BM,hve',Dw];refine AF.via (SB ..) ?_;refine AF.via (Ei _ _ (by kernel_rfl) _ _ _ _) ?_;rw[Y.lpOf_eq,iL];simp only[Int.ofNat_eq_natCast];refine AF.loop (q1 hm _) λx'=>?_;refine AF.via (X3 ..) ?_;rw[Ca (by omega)];exact AF.here _
    ·have hve':=hve;refine AF.via (B5 [5,8] Tryd.prog kp 1 _ (Y.lpOf Tryd.prog kp 1 (AL Tryd.prog kp 1 o k) 36) (λ_ _ _ _ _ _ _=>rfl) 36 k (BW Tryd.f8 0) (by kernel_rfl) _ M _) ?_;refine AF.via (L4 ..) ?_;rw[FO hlt,AG];refine AF.via (BP _ _ _ (by kernel_rfl) _ _ _ _) ?_;refine AF.via (JJ ..) ?_;refine AF.via (Cc 5 ..) ?_;refine AF.via (O5 ..) ?_;rw[Eh,GY hlt,AG,gb,AT,Dk CJ hlt,AG,Dm CJ hp];refine AF.via (LL ..) ?_;rw[Y.storeF_eq,hst,Y.ob_some];refine AF.via (O6 ..) ?_;rw[gx,AT,show Y.nthL (B9 (v,r)) 0=some v from rfl,BM,hve,Dw,h8f,BH];refine AF.via (BP _ _ _ (by kernel_rfl) _ _ _ _) ?_;refine AF.via (L3 ..) ?_;refine AF.via (SA ..) ?_;rw[gx,AT,show Y.nthL (B9 (v,r)) 0=some v from rfl,BM,hve',Dw];refine AF.via (SB ..) ?_;refine AF.via (Ei _ _ (by kernel_rfl) _ _ _ _) ?_;rw[Y.lpOf_eq,iL];simp only[Int.ofNat_eq_natCast];refine AF.loop (q1 hm _) λx'=>?_;refine AF.via (X3 ..) ?_;rw[Ca (by omega)];exact AF.here _
   |false=>
    have e:CZ (rs.drop i) i=some (i,1):=by rw[hd,CZ,if_neg h8,if_neg (by rw[hm];decide)]
    refine⟨M2,h2,λha=>(by rw[e]at ha;cases ha),λa e' ha x=>AF.stop (AF.turn ?_) (by simp)⟩;obtain⟨rfl,rfl⟩:i=a/\1=e':=by rw[e]at ha;cases ha;exact⟨rfl,rfl⟩
    have hve':=hve;refine AF.via (B5 [5,8] Tryd.prog kp 1 _ (Y.lpOf Tryd.prog kp 1 (AL Tryd.prog kp 1 o k) 36) (λ_ _ _ _ _ _ _=>rfl) 36 k (BW Tryd.f8 0) (by kernel_rfl) _ M _) ?_;refine AF.via (L4 ..) ?_;rw[FO hlt,AG];refine AF.via (BP _ _ _ (by kernel_rfl) _ _ _ _) ?_;refine AF.via (JJ ..) ?_;refine AF.via (Cc 5 ..) ?_;refine AF.via (O5 ..) ?_;rw[Eh,GY hlt,AG,gb,AT,Dk CJ hlt,AG,Dm CJ hp];refine AF.via (LL ..) ?_;rw[Y.storeF_eq,hst,Y.ob_some];refine AF.via (O6 ..) ?_;rw[gx,AT,show Y.nthL (B9 (v,r)) 0=some v from rfl,BM,hve,Dw,h8f,BH];refine AF.via (BP _ _ _ (by kernel_rfl) _ _ _ _) ?_;refine AF.via (L3 ..) ?_;refine AF.via (SA ..) ?_;rw[gx,AT,show Y.nthL (B9 (v,r)) 0=some v from rfl,BM,hve',Dw];refine AF.via (SB ..) ?_;refine AF.via (Ei _ _ (by kernel_rfl) _ _ _ _) ?_;rw[Y.lpOf_eq,iL];simp only[Int.ofNat_eq_natCast];refine AF.loop (q2 hm _) λx'=>?_;refine AF.via (iN ..) ?_;exact AF.here _
theorem Pu{rs:List A5}{v:Value}(hO:GX o)(hk:300<=k)(hv:DH K v rs)(h:Hp M K [])(h0:K 0=some (.cells false gl)):
  ∃M',AL Tryd.prog kp 1 o k 8 [v] M=some (.tuple ⟨[.int .i64 ((C5 rs).1:Int), .int .i64 (C5 rs).2]⟩,M')/\Hp M' K []:=by
 obtain⟨k,rfl⟩:∃k',k=k'+1:=⟨k - 1,by omega⟩
 obtain⟨ra,rc,rfl,hv⟩:=hv
 by_cases h32:32<rs.length
 ·refine⟨M,Bs 36 (hO.off 8 (by decide) _ _) m7 m8 sk ?_ m9,h⟩;refine Eq.trans (Pv ..) ?_;rw[Ee (show(32:Int)<Int.ofNat rs.length by show(32:Int)< (rs.length:Int);omega),AG,C5,if_pos h32];rfl
 ·have hf:Y.ltF 32 (Int.ofNat rs.length)=false:=C3 (by show¬(32:Int)< (rs.length:Int);omega)
  obtain⟨M',h',q1,q2⟩:∃M',Hp M' K []/\(CZ rs 0=none->∀x,AF 36 [(11, .slice ra rs.length rc),(12, .int .i64 (rs.length:Int)),(13, .int .i64 (rs.length:Int))] (.exit 0) M' (B2 (AH Tryd.prog kp 1 (AL Tryd.prog kp 1 o k) (A6 Tryd.prog kp 1 (AL Tryd.prog kp 1 o k) 36) 36 k (BW Tryd.f8 0)) k (AA 36 (up x [(11, .slice ra rs.length rc),(12, .int .i64 (rs.length:Int)),(13, .int .i64 (0:Int))])) M))/\
    (∀a e,CZ rs 0=some (a,e)->∀x,AF 36 [(2, .int .i64 (a:Int)),(3, .int .i64 e)] .ret M' (B2 (AH Tryd.prog kp 1 (AL Tryd.prog kp 1 o k) (A6 Tryd.prog kp 1 (AL Tryd.prog kp 1 o k) 36) 36 k (BW Tryd.f8 0)) k (AA 36 (up x [(11, .slice ra rs.length rc),(12, .int .i64 (rs.length:Int)),(13, .int .i64 (0:Int))])) M)):=by
   by_cases e:rs= []
   ·subst e;obtain⟨k,rfl⟩:∃k',k=k'+1:=⟨k - 1,by omega⟩;exact⟨M,h,λ_ x=>AF.stop (AF.turn (AF.via (bV ..) (AF.here _))) (by simp),λa e ha=>by cases ha⟩
   ·obtain⟨rb,rp,own,rest,vr,rfl,hrs,hrb,hvt⟩:=hv e;have hl2:rs.length=vr.length:=by rw[←hrs,List.length_map]
    obtain⟨M',h',q1,q2⟩:=Nd (k:=k) (rc:=rc) (rp:=rp) hO (by omega) (by omega) hrs h0 hrb hvt vr.length 0 (by omega) k M (by omega) h;rw[hl2];exact⟨M',h',q1,q2⟩
  refine⟨M',Bs 36 (hO.off 8 (by decide) _ _) m7 m8 sk ?_ m9,h'⟩;refine Eq.trans (Pv ..) ?_;rw[hf,BH,C5,if_neg h32];rw[Y.lpOf_eq,Y.loopC_body];simp only[Int.ofNat_eq_natCast];cases hc:CZ rs 0 with
  |none=>
   refine L5 (q1 hc _) λx'=>?_;exact V9 ..
  |some p=>
   obtain⟨a,e⟩:=p;refine L5 (q2 a e hc _) λx'=>?_;exact Va ..
end
end
end Go.Proofs.YtgjflcgmieiafaaDoor
namespace Go.Proofs.YtgjflcgmieiafaaDoor
open Go Go.DI Go.DI.Kit Go.Proofs Go.Cmp
noncomputable section
set_option maxHeartbeats 4000000
variable{α:Type}(x:Nat->Value)(cf:Y.CF α)(L:Y.LK α)(k:Nat)(m:Mem)
noncomputable def c8:Code:=D7 [3,6,7] (AN Tryd.f4)
noncomputable def bY:List Oper:=CE 3 (AN Tryd.f4)
noncomputable def b8:List Oper:=CE 6 (AN Tryd.f4)
noncomputable def ba:List Oper:=CE 7 (AN Tryd.f4)
theorem fz(ra:Option Addr)(rn rc:Nat)(q:Value->Mem->Option α):Y.codeF (AN Tryd.f5) Tryd.prog kp 1 (Y.cfT Tryd.prog cf) L 17 k (AA 17 (CM [.slice ra rn rc])) m (Y.retF Tryd.prog Tryd.f5 q)=
 (cf 8 [.slice ra rn rc] m (λC A=>Y.asTup C (λD=>Y.unc (Array.toList D) (λa l=>Y.asInt a (λE O=>cond (Y.kEq .i64 E) (Y.unc l (λF G=>Y.asInt F (λH B=>cond (Y.kEq .i64 H) (Y.unc G (λQ R=>none) (cond (cond (Y.eqF B 0) false true) (q (.tuple ⟨[.int .i64 0,.int .i64 B]⟩) A) (cf 9 [.slice ra rn rc] A (λI J=>Y.asSl I (λS N T=>q (.tuple ⟨[.int .i64 (Int.ofNat N),.int .i64 0]⟩) J) none)))) none) none) none) none) none) none))):=by kernel_rfl
theorem L7(ra:Option Addr)(rn rc:Nat)(q:Value->Mem->Option α):Y.codeF c8 Tryd.prog kp 1 (Y.cfT Tryd.prog cf) L 24 k (AA 24 (CM [.slice ra rn rc])) m (Y.retF Tryd.prog Tryd.f4 q)=
 (cf 8 [.slice ra rn rc] (Mem.push m (.cells true [.slice none 0 0,.slice none 0 0])) (λH F=>Y.asTup H (λI=>Y.unc (Array.toList I) (λa l=>Y.asInt a (λJ B=>cond (Y.kEq .i64 J) (Y.unc l (λN O=>Y.asInt N (λQ A=>cond (Y.kEq .i64 Q) (Y.unc O (λS T=>none) (cond (cond (Y.eqF A 0) false true) (L (Y.codeF (Y.loopC c8 0) Tryd.prog kp 1 (Y.cfT Tryd.prog cf) L 24 k) (Y.loopC c8 0) k (AA 24 (up (up Go.DI.x0 [(0,.slice ra rn rc),(8,.slice ra rn rc),(4,.int .i64 B),(12,.int .i64 A),(10,.int .i64 B),(9,.tuple ⟨[.int .i64 B,.int .i64 A]⟩),(13,.bool true),(3,.int .i64 0),(11,.int .i64 A),(7,.tuple ⟨[.int .i64 B,.int .i64 A]⟩)]) [(2,.pointer (some ⟨Mem.size m,0,none⟩)),(5,.int .i64 A),(6,.tuple ⟨[]⟩)])) F (Y.kont Tryd.prog kp 1 (Y.cfT Tryd.prog cf) L 24 k c8 0 (Y.retF Tryd.prog Tryd.f4 q))) (cf 9 [.slice ra rn rc] F (λR G=>Y.asSl R (λD C E=>cond (Y.ltF 512 (Int.ofNat C)) (L (Y.codeF (Y.loopC c8 1) Tryd.prog kp 1 (Y.cfT Tryd.prog cf) L 24 k) (Y.loopC c8 1) k (AA 24 (up (up Go.DI.x0 [(0,.slice ra rn rc),(16,.slice ra rn rc),(8,.slice ra rn rc),(4,.int .i64 B),(20,.bool true),(12,.int .i64 A),(18,.slice D C E),(10,.int .i64 B),(17,.slice D C E),(9,.tuple ⟨[.int .i64 B,.int .i64 A]⟩),(13,.bool false),(3,.int .i64 0),(19,.int .i64 (Int.ofNat C)),(11,.int .i64 A),(7,.tuple ⟨[.int .i64 B,.int .i64 A]⟩)]) [(2,.pointer (some ⟨Mem.size m,0,none⟩)),(5,.int .i64 A),(6,.slice D C E)])) G (Y.kont Tryd.prog kp 1 (Y.cfT Tryd.prog cf) L 24 k c8 1 (Y.retF Tryd.prog Tryd.f4 q))) (L (Y.codeF (Y.loopC c8 2) Tryd.prog kp 1 (Y.cfT Tryd.prog cf) L 24 k) (Y.loopC c8 2) k (AA 24 (up (up Go.DI.x0 [(0,.slice ra rn rc),(16,.slice ra rn rc),(8,.slice ra rn rc),(4,.int .i64 B),(20,.bool false),(12,.int .i64 A),(18,.slice D C E),(10,.int .i64 B),(17,.slice D C E),(9,.tuple ⟨[.int .i64 B,.int .i64 A]⟩),(13,.bool false),(3,.int .i64 0),(19,.int .i64 (Int.ofNat C)),(11,.int .i64 A),(7,.tuple ⟨[.int .i64 B,.int .i64 A]⟩)]) [(2,.pointer (some ⟨Mem.size m,0,none⟩)),(5,.int .i64 A),(6,.slice D C E)])) G (Y.kont Tryd.prog kp 1 (Y.cfT Tryd.prog cf) L 24 k c8 2 (Y.retF Tryd.prog Tryd.f4 q)))) none)))) none) none) none) none) none) none))):=by kernel_rfl
theorem bh(tb:Nat)(e:Int)(q:Value->Mem->Option α):Y.kont Tryd.prog kp 1 (Y.cfT Tryd.prog cf) L 24 k c8 0 (Y.retF Tryd.prog Tryd.f4 q) .normal (AA 24 (up x [(2,.pointer (some ⟨tb,0,none⟩)),(3,.int .i64 e)])) m=
 (Y.cellsOf (Mem.get m tb) (λ_ A=>cond (Nat.ble 2 (Y.lenLF A)) (q (.tuple ⟨[.agg ⟨Y.subL A 0 2⟩,.int .i64 e]⟩) m) none)):=by kernel_rfl
theorem bf(tb:Nat)(e:Int)(q:Value->Mem->Option α):Y.kont Tryd.prog kp 1 (Y.cfT Tryd.prog cf) L 24 k c8 1 (Y.retF Tryd.prog Tryd.f4 q) .normal (AA 24 (up x [(2,.pointer (some ⟨tb,0,none⟩)),(3,.int .i64 e)])) m=
 (Y.cellsOf (Mem.get m tb) (λ_ A=>cond (Nat.ble 2 (Y.lenLF A)) (q (.tuple ⟨[.agg ⟨Y.subL A 0 2⟩,.int .i64 e]⟩) m) none)):=by kernel_rfl
theorem bg(tb:Nat)(e:Int)(q:Value->Mem->Option α):Y.kont Tryd.prog kp 1 (Y.cfT Tryd.prog cf) L 24 k c8 2 (Y.retF Tryd.prog Tryd.f4 q) .normal (AA 24 (up x [(2,.pointer (some ⟨tb,0,none⟩)),(3,.int .i64 e)])) m=
 (Y.cellsOf (Mem.get m tb) (λ_ A=>cond (Nat.ble 2 (Y.lenLF A)) (q (.tuple ⟨[.agg ⟨Y.subL A 0 2⟩,.int .i64 e]⟩) m) none)):=by kernel_rfl
end
end Go.Proofs.YtgjflcgmieiafaaDoor
namespace Go.Cmp
structure Tn(t:A7):Prop where
 mask:0<=t.mask/\t.mask<18446744073709551616
 lo:0<=t.lo/\t.lo<18446744073709551616
 hi:0<=t.hi/\t.hi<18446744073709551616
def JK(rs:List A5):Prop:=∀r∈rs,∀t∈r.tests,Tn t
def JL(rs:List A5):Nat:=if(C5 rs).2=0 then(B6 (BF rs)).length else 0
def Gj(rs:List A5):Int:=if(C5 rs).2=0 then(if 512< (B6 (BF rs)).length then 3 else 0)else(C5 rs).2
def C6(rs:List A5):List B1:=if Gj rs=0 then B6 (BF rs)else []
def so(rs:List A5):Nat:=rs.length+(rs.map λr=>r.tests.length).sum
end Go.Cmp
namespace Go.Proofs.YtgjflcgmieiafaaDoor
open Go Go.DI Go.DI.Kit Go.Proofs Go.Cmp
noncomputable section
theorem Vb{t:A7}(h:F0 t=true)(hr:Tn t):FP t:=by
 unfold F0 at h
 split at h
 ·cases h
 ·split at h
  ·rename_i h2
   have hb:BS t=true->False:=by
    intro hb;simp only[BS,Bool.or_eq_true,decide_eq_true_eq]at hb;omega
   exact⟨by omega,λe=>(hb e).elim,λe=>(hb e).elim,hr.mask,hr.lo,hr.hi⟩
  ·split at h
   ·cases h
   ·split at h
    ·cases h
    ·rename_i h3 h4;simp only[decide_eq_true_eq]at h;exact⟨by omega,λ_=>⟨h.1,h.2.1⟩,λ_=>by unfold Vc;omega,hr.mask,hr.lo,hr.hi⟩
theorem Gk:∀(rs:List A5) (i:Nat),CZ rs i=none->∀r∈rs,r.tests.length<=8/\r.tests.all F0=true
 | [],i,_,r,hr=>by simp at hr
 |r::rs,i,h,r',hr=>by
  simp only[CZ]at h;split at h
  ·cases h
  ·rename_i h8;split at h
   ·rename_i ha;rcases List.mem_cons.1 hr with rfl|hr
    ·exact⟨by omega,ha⟩
    ·exact Gk rs (i+1) h r' hr
   ·cases h
theorem Ke:∀(rs:List A5) (i a:Nat) (e:Int),CZ rs i=some (a,e)->e=1\/e=3
 | [],i,a,e,h=>by cases h
 |r::rs,i,a,e,h=>by
  simp only[CZ]at h;split at h
  ·right;cases h;rfl
  ·split at h
   ·exact Ke rs (i+1) a e h
   ·left;cases h;rfl
theorem Nf{rs:List A5}(h:(C5 rs).2=0):rs.length<=32/\CZ rs 0=none:=by
 unfold C5 at h
 split at h
 ·cases h
 ·refine⟨by omega,?_⟩;cases hc:CZ rs 0 with
  |none=>rfl
  |some p=>
   obtain⟨a,e⟩:=p;rw[hc]at h;have:=Ke rs 0 a e hc;have h:e=0:=h;omega
theorem L6{rs:List A5}(h:(C5 rs).2=0)(hr:JK rs):O7 rs:=by
 obtain⟨h1,h2⟩:=Nf h
 have h3:=Gk rs 0 h2
 exact⟨h1,λr hr'=>(h3 r hr').1,λr hr' t ht=>Vb (List.all_eq_true.1 (h3 r hr').2 t ht) (hr r hr' t ht)⟩
def GP(M:Mem)(K:CU)(l:List B1)(v:Value):Prop:=∃a,v= .slice a l.length l.length/\(l≠ []->∃c,a=some ⟨c,0,some 5⟩/\c<M.size/\K c=none/\M.get c= .cells true (AD l))
theorem GP.none(M:Mem)(K:CU):GP M K [] (.slice none 0 0):=⟨_,rfl,λh=>absurd rfl h⟩
theorem GP.weak{M:Mem}{K K':CU}{l:List B1}{v:Value}(h:GP M K' l v)(hw:∀j x,K j=some x->K' j=some x):GP M K l v:=by
 obtain⟨a,h1,h2⟩:=h
 refine⟨a,h1,λh0=>?_⟩
 obtain⟨c,q1,q2,q3,q4⟩:=h2 h0
 refine⟨c,q1,q2,?_,q4⟩
 cases hk:K c with
 |none=>rfl
 |some y=>rw[hw _ _ hk]at q3;cases q3
theorem To{M:Mem}{K:CU}{mp:Nat}{l:List B1}{v:Value}(h:Hp M K [(mp,HN l)])(hv:M.get mp= .cells true [v]):GP M K l v:=by
 obtain⟨ht,hK,F,h1,h2,h3⟩:=h
 cases h1 with
 |cons hA hL=>
  rename_i b F;have hc:=hA.cells;rw[hv]at hc;have hc:v=pI b 5 l.length:=by simpa[HN]using hc
  cases b with
  |none=>
   have h0:l.length=0:=hA.buf.1;exact⟨none,by rw[hc,h0];rfl,λhn=>absurd (List.eq_nil_of_length_eq_zero h0) hn⟩
  |some c=>
   exact⟨some ⟨c,0,some 5⟩,hc,λ_=>⟨c,rfl,(h3 c (by simp)).2,(h3 c (by simp)).1,hA.buf⟩⟩
theorem at8:Tryd.prog.funcs[4]?=some Tryd.f4:=by kernel_rfl
theorem pd:Tryd.f4.body=some (AN Tryd.f4):=by kernel_rfl
theorem nt8:Tryd.f4.ntmps=24:=by kernel_rfl
theorem n8{a:Value}:max [a].length Tryd.f4.ntmps=24:=by rw[nt8];rfl
theorem me:Tryd.prog.funcs[5]?=some Tryd.f5:=by kernel_rfl
theorem mf:Tryd.f5.body=some (AN Tryd.f5):=by kernel_rfl
theorem pe:Tryd.f5.ntmps=17:=by kernel_rfl
theorem pJ{a:Value}:max [a].length Tryd.f5.ntmps=17:=by rw[pe];rfl
theorem mg{a b:Int}:IP Tryd.prog 5 (.tuple ⟨[.int .i64 a, .int .i64 b]⟩)=true:=by kernel_rfl
theorem pf{a b:Option Addr}{n n' c c':Nat}{e:Int}:IP Tryd.prog 4 (.tuple ⟨[.agg ⟨[.slice a n c, .slice b n' c']⟩, .int .i64 e]⟩)=true:=by kernel_rfl
theorem pg:Bh Tryd.prog 32=some 2:=by kernel_rfl
section
variable{α:Type}(x:Nat->Value)(cf:Y.CF α)(L:Y.LK α)(k:Nat)(m:Mem)
theorem bX(t:AE)(q:Y.ExK α):Y.codeF (Y.loopC c8 0) Tryd.prog kp 1 (Y.cfT Tryd.prog cf) L 24 k t m q=Y.opsF bY Tryd.prog kp 1 (Y.cfT Tryd.prog cf) 24 bY t m λt m=>q .normal t m:=by kernel_rfl
theorem bZ(t:AE)(q:Y.ExK α):Y.codeF (Y.loopC c8 1) Tryd.prog kp 1 (Y.cfT Tryd.prog cf) L 24 k t m q=Y.opsF b8 Tryd.prog kp 1 (Y.cfT Tryd.prog cf) 24 b8 t m λt m=>q .normal t m:=by kernel_rfl
theorem b9(t:AE)(q:Y.ExK α):Y.codeF (Y.loopC c8 2) Tryd.prog kp 1 (Y.cfT Tryd.prog cf) L 24 k t m q=Y.opsF ba Tryd.prog kp 1 (Y.cfT Tryd.prog cf) 24 ba t m λt m=>q .normal t m:=by kernel_rfl
theorem iO(b:Nat)(e:Int)(w6:Value)(q:AE->Mem->Option α):Y.opsF bY Tryd.prog kp 1 (Y.cfT Tryd.prog cf) 24 bY (AA 24 (up x [(2, .pointer (some ⟨b,0,none⟩)),(5, .int .i64 e),(6,w6)])) m q=
 Y.storeF Tryd.prog m 32 (.agg ⟨[.slice none 0 0, .slice none 0 0]⟩) (.pointer (some ⟨b,0,none⟩)) λm'=>q (AA 24 (up (up x [(5, .int .i64 e),(6,w6),(14, .agg ⟨[.slice none 0 0, .slice none 0 0]⟩),(15, .int .i64 e)]) [(2, .pointer (some ⟨b,0,none⟩)),(3, .int .i64 e)])) m':=by kernel_rfl
theorem iP(b:Nat)(e:Int)(w6:Value)(q:AE->Mem->Option α):Y.opsF b8 Tryd.prog kp 1 (Y.cfT Tryd.prog cf) 24 b8 (AA 24 (up x [(2, .pointer (some ⟨b,0,none⟩)),(5, .int .i64 e),(6,w6)])) m q=
 Y.storeF Tryd.prog m 32 (.agg ⟨[.slice none 0 0, .slice none 0 0]⟩) (.pointer (some ⟨b,0,none⟩)) λm'=>q (AA 24 (up (up x [(5, .int .i64 e),(6,w6),(21, .agg ⟨[.slice none 0 0, .slice none 0 0]⟩)]) [(2, .pointer (some ⟨b,0,none⟩)),(3, .int .i64 (3:Int))])) m':=by kernel_rfl
theorem iQ(b:Nat)(e:Int)(a:Option Addr)(n c:Nat)(q:AE->Mem->Option α):Y.opsF ba Tryd.prog kp 1 (Y.cfT Tryd.prog cf) 24 ba (AA 24 (up x [(2, .pointer (some ⟨b,0,none⟩)),(5, .int .i64 e),(6, .slice a n c)])) m q=
 Y.storeF Tryd.prog m 32 (.agg ⟨[.slice none 0 0, .slice a n c]⟩) (.pointer (some ⟨b,0,none⟩)) λm'=>q (AA 24 (up (up x [(5, .int .i64 e),(6, .slice a n c),(22, .slice a n c),(23, .agg ⟨[.slice none 0 0, .slice a n c]⟩)]) [(2, .pointer (some ⟨b,0,none⟩)),(3, .int .i64 (0:Int))])) m':=by kernel_rfl
end
section
variable{K:CU}{M:Mem}{o:DT}{k:Nat}
theorem bc{rs:List A5}{v:Value}(hO:GX o)(hk:100000+200<=k)(hr:JK rs)(hv:DH K v rs)(h:Hp M K [])(h0:K 0=some (.cells false gl)):
  ∃M',AL Tryd.prog kp 1 o k 5 [v] M=some (.tuple ⟨[.int .i64 (JL rs:Int), .int .i64 (C5 rs).2]⟩,M')/\Hp M' K []:=by
 obtain⟨k,rfl⟩:∃k',k=k'+1:=⟨k - 1,by omega⟩
 obtain⟨ra,rc,hve,_⟩:=id hv
 obtain⟨M1,c1,h1⟩:=Pu (k:=k) hO (by omega) hv h h0
 by_cases he:(C5 rs).2=0
 ·have hT:=L6 he hr;obtain⟨v',M2,mp,c2,g2,h2⟩:=Tp (k:=k) hO (by omega) hT hv h1 h0;obtain⟨a,rfl,_⟩:=To h2 g2;have h2:=h2.tail;refine⟨M2,Bs 17 (hO.off 5 (by decide) _ _) me mf pJ ?_ mg,h2⟩;subst hve;refine Eq.trans (fz ..) ?_;refine step c1 ?_;rw[Ju,HT,BD,Bt,AG,HT,BD,Bt,AG,Ng,GQ,Bf he,AG];refine step c2 ?_;rw[Dw,JL,if_pos he,he];rfl
 ·refine⟨M1,Bs 17 (hO.off 5 (by decide) _ _) me mf pJ ?_ mg,h1⟩;subst hve;refine Eq.trans (fz ..) ?_;refine step c1 ?_;rw[Ju,HT,BD,Bt,AG,HT,BD,Bt,AG,Ng,GQ,Bi he,BH,JL,if_neg he];rfl
theorem Hp.unbox{b:Nat}{x y:BI}{hs:List (Nat×Bq)}(h:Hp M (FB K b x) hs)(hk:K b=none):Hp (M.set b y) K hs:=by
 obtain⟨ht,hK,F,h1,h2,h3⟩:=h
 have hb:=(hK b x (BQ ..)).1
 refine⟨F3 ht hb,λj z hj=>?_,F,h1.mono λj hj=>Mem.get_set_ne _ ?_ _,h2,λj hj=>?_⟩
 ·have hne:j≠b:=by rintro rfl;rw[hk]at hj;cases hj
  have:=hK j z (by rw[Cd hne];exact hj);exact⟨this.1,(Mem.get_set_ne _ hne _).trans this.2⟩
 ·rintro rfl;have:=(h3 _ hj).1;rw[BQ]at this;cases this
 ·have:=h3 j hj;have hne:j≠b:=by rintro rfl;rw[BQ]at this;cases this.1
  rw[Cd hne]at this;exact this
theorem I5{b:Nat}{u v u' v':Option Addr}{n c n' c' n2 c2 n3 c3:Nat}(hg:M.get b= .cells true [.slice u n c, .slice v n' c']):
  Bx Tryd.prog M 32 (.agg ⟨[.slice u' n2 c2, .slice v' n3 c3]⟩) (.pointer (some ⟨b,0,none⟩))=some (M.set b (.cells true [.slice u' n2 c2, .slice v' n3 c3])):=by
 rw[Cn (n:=2) pg rfl hg (by simp) rfl]
 rfl
theorem bd{rs:List A5}{v:Value}(hO:GX o)(hk:100000+200<=k)(hr:JK rs)(hv:DH K v rs)(h:Hp M K [])(h0:K 0=some (.cells false gl)):
  ∃v' M',AL Tryd.prog kp 1 o k 4 [v] M=some (.tuple ⟨[.agg ⟨[.slice none 0 0,v']⟩, .int .i64 (Gj rs)]⟩,M')/\Hp M' K []/\GP M' K (C6 rs) v'/\M.size<=M'.size:=by
 obtain⟨k,rfl⟩:∃k',k=k'+1:=⟨k - 1,by omega⟩
 obtain⟨ra,rc,hve,_⟩:=id hv
 have hKM:=h.no (Nat.le_refl M.size)
 have hbx:=h.boxP (.cells true [.slice none 0 0, .slice none 0 0])
 have hv1:=hv.mono hbx.2
 have h01:=hbx.2 _ _ h0
 obtain⟨M1,c1,h1⟩:=Pu (k:=k) hO (by omega) hv1 hbx.1 h01
 have g1:=h1.get (BQ ..)
 have s1:=h1.lt (BQ K M.size _)
 by_cases he:(C5 rs).2=0
 ·have hT:=L6 he hr;obtain⟨v',M2,mp,c2,g2',h2⟩:=Tp (k:=k) hO (by omega) hT hv1 h1 h01;obtain⟨a,rfl,hcode⟩:=To h2 g2';have g2:=h2.get (BQ ..);have s2:=h2.lt (BQ K M.size _);by_cases hl:512< (B6 (BF rs)).length
  ·have ee:Gj rs=3:=by rw[Gj,if_pos he,if_pos hl]
   have eo:C6 rs= []:=by rw[C6,if_neg (by rw[ee];decide)]
   refine⟨.slice none 0 0,M2.set M.size (.cells true [.slice none 0 0, .slice none 0 0]),Bs 24 (hO.off 4 (by decide) _ _) at8 pd n8 ?_ pf,(Hp.unbox h2 hKM).tail,by rw[eo];exact GP.none _ _,by show M.size<=M2.size;omega⟩;subst hve;refine Eq.trans (B5 [3,6,7] Tryd.prog kp 1 _ (Y.lpOf Tryd.prog kp 1 (AL Tryd.prog kp 1 o k) 24) (λ_ _ _ _ _ _ _=>rfl) 24 k (AN Tryd.f4) (by kernel_rfl) _ M _) ?_;refine Eq.trans (L7 ..) ?_;refine step c1 ?_;rw[Ju,HT,BD,Bt,AG,HT,BD,Bt,AG,Ng,GQ,Bf he,AG];refine step c2 ?_;rw[Dw,Ee (show(512:Int)<Int.ofNat (B6 (BF rs)).length by show(512:Int)< ((B6 (BF rs)).length:Int);omega),AG,ee];refine Eq.trans (BP _ _ _ (by kernel_rfl) _ _ _ _) ?_;refine Eq.trans (bZ ..) ?_;refine Eq.trans (iP ..) ?_;rw[Y.storeF_eq,I5 g2,Y.ob_some];refine Eq.trans (bf ..) ?_;rw[Mem.get_set_same,AT];rfl
  ·have ee:Gj rs=0:=by rw[Gj,if_pos he,if_neg hl]
   have eo:C6 rs=B6 (BF rs):=by rw[C6,if_pos ee]
   refine⟨.slice a (B6 (BF rs)).length (B6 (BF rs)).length,M2.set M.size (.cells true [.slice none 0 0, .slice a (B6 (BF rs)).length (B6 (BF rs)).length]),Bs 24 (hO.off 4 (by decide) _ _) at8 pd n8 ?_ pf,(Hp.unbox h2 hKM).tail,?_,by show M.size<=M2.size;omega⟩
   ·subst hve;refine Eq.trans (B5 [3,6,7] Tryd.prog kp 1 _ (Y.lpOf Tryd.prog kp 1 (AL Tryd.prog kp 1 o k) 24) (λ_ _ _ _ _ _ _=>rfl) 24 k (AN Tryd.f4) (by kernel_rfl) _ M _) ?_;refine Eq.trans (L7 ..) ?_;refine step c1 ?_;rw[Ju,HT,BD,Bt,AG,HT,BD,Bt,AG,Ng,GQ,Bf he,AG];refine step c2 ?_;rw[Dw,C3 (show¬(512:Int)<Int.ofNat (B6 (BF rs)).length by show¬(512:Int)< ((B6 (BF rs)).length:Int);omega),BH,ee];refine Eq.trans (BP _ _ _ (by kernel_rfl) _ _ _ _) ?_;refine Eq.trans (b9 ..) ?_;refine Eq.trans (iQ ..) ?_;rw[Y.storeF_eq,I5 g2,Y.ob_some];refine Eq.trans (bg ..) ?_;rw[Mem.get_set_same,AT];rfl
   ·rw[eo];refine⟨a,rfl,λhne=>?_⟩;obtain⟨c,q1,q2,q3,q4⟩:=hcode hne;have hcne:c≠M.size:=by rintro rfl;rw[BQ]at q3;cases q3
    rw[Cd hcne]at q3;exact⟨c,q1,q2,q3,(Mem.get_set_ne _ hcne _).trans q4⟩
 ·have ee:Gj rs=(C5 rs).2:=by rw[Gj,if_neg he]
  have eo:C6 rs= []:=by rw[C6,if_neg (by rw[ee];exact he)]
  refine⟨.slice none 0 0,M1.set M.size (.cells true [.slice none 0 0, .slice none 0 0]),Bs 24 (hO.off 4 (by decide) _ _) at8 pd n8 ?_ pf,Hp.unbox h1 hKM,by rw[eo];exact GP.none _ _,by show M.size<=M1.size;omega⟩;subst hve;refine Eq.trans (B5 [3,6,7] Tryd.prog kp 1 _ (Y.lpOf Tryd.prog kp 1 (AL Tryd.prog kp 1 o k) 24) (λ_ _ _ _ _ _ _=>rfl) 24 k (AN Tryd.f4) (by kernel_rfl) _ M _) ?_;refine Eq.trans (L7 ..) ?_;refine step c1 ?_;rw[Ju,HT,BD,Bt,AG,HT,BD,Bt,AG,Ng,GQ,Bi he,BH,ee];refine Eq.trans (BP _ _ _ (by kernel_rfl) _ _ _ _) ?_;refine Eq.trans (bX ..) ?_;refine Eq.trans (iO ..) ?_;rw[Y.storeF_eq,I5 g1,Y.ob_some];refine Eq.trans (bh ..) ?_;rw[Mem.get_set_same,AT];rfl
end
end
end Go.Proofs.YtgjflcgmieiafaaDoor
namespace Go.DI
namespace Kit
noncomputable section
def nE(bs:List Nat)(M m:Mem):Mem:=
 ⟨λj=>if j<M.size then(match bs.idxOf? j with|some i=>GU (DQ bs M) (m.get (i+1))|none=>M.get j)else .none, .nil,M.size+(m.size - (1+bs.length))⟩
section
variable{P:Program}{K:TypeId->Bool}{gl:List Value}
end
end
end Kit
end Go.DI
namespace Go.DI.Y
noncomputable section
variable{β:Type}
abbrev TT(β:Type):=β×List (Value×Value)
def G9(ps:List (Value×Value)):Prop:=∀p∈ps,p.1=p.2
theorem good_of{ps:List (Value×Value)}(h:ps.map Prod.fst=ps.map Prod.snd):G9 ps:=by
 induction ps with
 |nil=>intro p hp;simp at hp
 |cons x l ih=>
  simp only[List.map_cons,List.cons.injEq]at h;intro p hp;rcases List.mem_cons.1 hp with rfl|hp
  ·exact h.1
  ·exact ih h.2 p hp
section
variable{P:Program}{K:TypeId->Bool}{G:Nat}{cf:CF (TT β)}{df:DF}
end
def Ya(d:Nat):Value->Bool:=
 Nat.rec (motive:=λ_=>Value->Bool) (λ_=>false) (λ_ ih v=>match v with
  | .bool _=>true
  | .int _ _=>true
  | .string _=>true
  | .pointer _=>true
  | .slice _ _ _=>true
  | .map _=>true
  | .nilFunc=>true
  | .nilIface=>true
  | .agg a=>List.rec (motive:=λ_=>Bool) true (λx _ r=>Bool.rec (motive:=λ_=>Bool) false r (ih x)) a.toList
  | .tuple a=>List.rec (motive:=λ_=>Bool) true (λx _ r=>Bool.rec (motive:=λ_=>Bool) false r (ih x)) a.toList
  |_=>false) d
theorem K1{f:Value->Bool}{g:Value->Value->Bool}(h:∀v,f v=true->g v v=true):∀(l:List Value),List.rec (motive:=λ_=>Bool) true (λx _ r=>Bool.rec (motive:=λ_=>Bool) false r (f x)) l=true->Kz g l l=true
 | [],_=>rfl
 |x::l,hl=>by
  have hl:Bool.rec (motive:=λ_=>Bool) false (List.rec (motive:=λ_=>Bool) true (λx _ r=>Bool.rec (motive:=λ_=>Bool) false r (f x)) l) (f x)=true:=hl;cases hx:f x with
  |false=>rw[hx]at hl;cases hl
  |true=>
   rw[hx]at hl;simp only[Kz,h x hx,K1 h l hl,Bool.and_self]
theorem Qb:∀(d:Nat) (v:Value),Ya d v=true->Nv d v v=true
 |0,v,h=>by cases h
 |d+1,v,h=>by
  have ih:=Qb d;cases v<;>first|(cases h;done)|skip
  all_goals try (simp[Nv];done)
  ·exact K1 ih _ h
  ·exact K1 ih _ h
end
end Go.DI.Y
namespace Go.DI
namespace Kit
noncomputable section
def items:Code->List Code
 | .seq a b=>items a++items b
 | .scope c=>items c
 |c=> [c]
def Gz:List Code->Code
 | []=> .skip
 | [c]=>c
 |c::l=> .seq c (Gz l)
section
variable{P:Program}{K:TypeId->Bool}{G:Nat}
def E7(P:Program)(K:TypeId->Bool)(G:Nat)(cf:FQ)(n k:Nat):List Code->AE->Mem->Option (Ex×AE×Mem)
 | [],t,m=>some (.normal,t,m)
 |c::l,t,m=>match AH P K G cf (A6 P K G cf n) n k c t m with
  |some (.normal,t',m')=>E7 P K G cf n k l t' m'
  |r=>r
variable{cf:FQ}{n k:Nat}
theorem Em:∀(a b:List Code) (t:AE) (m:Mem),E7 P K G cf n k (a++b) t m=(match E7 P K G cf n k a t m with|some (.normal,t',m')=>E7 P K G cf n k b t' m'|r=>r)
 | [],b,t,m=>rfl
 |c::a,b,t,m=>by
  simp only[List.cons_append,E7];cases AH P K G cf (A6 P K G cf n) n k c t m with
  |none=>rfl
  |some r=>
   obtain⟨e,t',m'⟩:=r;cases e with
   |normal=>exact Em a b t' m'
   |exit id=>rfl
   |ret=>rfl
theorem OD(c:Code)(t:AE)(m:Mem):E7 P K G cf n k [c] t m=AH P K G cf (A6 P K G cf n) n k c t m:=by
 simp only[E7]
 cases AH P K G cf (A6 P K G cf n) n k c t m with
 |none=>rfl
 |some r=>
  obtain⟨e,t',m'⟩:=r;cases e<;>rfl
theorem FI:∀(c:Code) (t:AE) (m:Mem),AH P K G cf (A6 P K G cf n) n k c t m=E7 P K G cf n k (items c) t m:=by
 intro c
 induction c with
 |seq a b iha ihb=>
  intro t m;simp only[items,Em,←iha,AH];cases AH P K G cf (A6 P K G cf n) n k a t m with
  |none=>rfl
  |some r=>
   obtain⟨e,t',m'⟩:=r;cases e with
   |normal=>exact ihb t' m'
   |exit id=>rfl
   |ret=>rfl
 |scope c ih=>intro t m;exact ih t m
 |_=>intro t m;exact(OD _ t m).symm
theorem DA:∀(l:List Code) (t:AE) (m:Mem),AH P K G cf (A6 P K G cf n) n k (Gz l) t m=E7 P K G cf n k l t m
 | [],t,m=>rfl
 | [c],t,m=>(OD c t m).symm
 |c::c'::l,t,m=>by
  show AH P K G cf (A6 P K G cf n) n k (.seq c (Gz (c'::l))) t m=_;simp only[AH,E7];cases AH P K G cf (A6 P K G cf n) n k c t m with
  |none=>rfl
  |some r=>
   obtain⟨e,t',m'⟩:=r;cases e with
   |normal=>exact DA (c'::l) t' m'
   |exit id=>rfl
   |ret=>rfl
theorem Wd(i:Nat)(c:Code){t t':AE}{m m':Mem} (h:AH P K G cf (A6 P K G cf n) n k (Gz ((items c).take i)) t m=some (.normal,t',m')):
  AH P K G cf (A6 P K G cf n) n k c t m=AH P K G cf (A6 P K G cf n) n k (Gz ((items c).drop i)) t' m':=by
 rw[FI c,←List.take_append_drop i (items c),Em,←DA,h]
 simp only[List.take_append_drop]
 rw[DA]
end
end
end Kit
end Go.DI
namespace Go.DI.H
open Go.DI.Y
noncomputable section
variable{β:Type}
abbrev TT(β:Type):=β×List (Value×Value)×List Prop
def G9(ps:List (Value×Value)×List Prop):Prop:=(∀p∈ps.1,p.1=p.2)/\∀p∈ps.2,p
structure Hint where
 ix:TypeId->Bool
 ld:Nat->TypeId->Nat->Option Value
 cmp:BinOp->TypeId->Option Bool
 ap:TypeId->Option (List Value)
 call:FuncId->Option Value
 spec:FuncId->List Value->BI->Value->Prop
 blk:Nat
 eff:FuncId->Mem->Mem:=λ_ m=>m
 specM:FuncId->Option (List Value->Mem->Value->Prop):=λ_=>none
 cv:TypeId->TypeId->Option Value:=λ_ _=>none
 cmpY:BinOp->TypeId->Value->Option Bool:=λ_ _ _=>none
 ldA:Operand->TypeId->Option Value:=λ_ _=>none
 cmpO:BinOp->TypeId->Operand->Option Bool:=λ_ _ _=>none
 mks:TypeId->Option BI:=λ_=>none
 st:TypeId->Nat->Option BI:=λ_ _=>none
 sl:TypeId->Option Value:=λ_=>none
 apO:Operand->Option (Value×Mem):=λ_=>none
def Hint.cmpAt(H:Hint)(op:BinOp)(ty:TypeId)(y:Operand):Option Bool:=match H.cmpO op ty y with
 |some b=>some b
 |none=>H.cmp op ty
def Hint.says(H:Hint)(f:FuncId)(args:List Value)(m:Mem)(v:Value):Prop:=match H.specM f with
 |some g=>g args m v
 |none=>H.spec f args (m.get H.blk) v
theorem good_of{ps:List (Value×Value)}{qs:List Prop}(h:ps.map Prod.fst=ps.map Prod.snd)(hq:∀p∈qs,p):G9 (ps,qs):=⟨Y.good_of h,hq⟩
def W0{A:Type}(F:(A->Option (TT β))->Option (TT β))(d:Option A):Prop:=∀q b ps,F q=some (b,ps)->G9 ps->∃a,d=some a/\∃ps',q a=some (b,ps')/\G9 ps'
abbrev LC(F:(Value->Mem->Option (TT β))->Option (TT β))(d:Option (Value×Mem)):Prop:=W0 (λq=>F λv m=>q (v,m)) d
abbrev nF(F:(AE->Mem->Option (TT β))->Option (TT β))(d:Option (AE×Mem)):Prop:=W0 (λq=>F λv m=>q (v,m)) d
abbrev rX(F:(List Rec->AE->Mem->Option (TT β))->Option (TT β))(d:Option (List Rec×AE×Mem)):Prop:=W0 (λq=>F λr v m=>q (r,v,m)) d
abbrev jl(F:ExK (TT β)->Option (TT β))(d:Option (Ex×AE×Mem)):Prop:=W0 (λq=>F λr v m=>q (r,v,m)) d
theorem W0.on{A:Type}{F:(A->Option (TT β))->Option (TT β)}{d:Option A}(h:∀q,F q=(match d with|some a=>q a|none=>none)):W0 F d:=λq b ps hq hg=>by
 rw[h]at hq
 cases d with
 |none=>cases hq
 |some a=>exact⟨a,rfl,ps,hq,hg⟩
def Rw(df:DF):CF (TT β):=λf a m q=>Eb (df f a m) q
section
variable{P:Program}{K:TypeId->Bool}{G:Nat}{cf:CF (TT β)}{df:DF}
theorem Gx(hcf:∀f a m,LC (cf f a m) (df f a m))(o:Op)(t:AE)(m:Mem):LC (opF o P K G cf t m) (Dj P K G df t m o):=by
 have h0:∀q:Value->Mem->Option (TT β),opF o P K G (Rw df) t m q=Eb (Dj P K G df t m o) q:=λq=>Sb (cf:=Rw df) (λ_ _ _ _=>rfl) o
 have on_:(∀q,opF o P K G cf t m q=opF o P K G (Rw df) t m q)->LC (opF o P K G cf t m) (Dj P K G df t m o):=λh=>W0.on λq=>by
  show opF o P K G cf t m _=_;rw[h,h0];cases Dj P K G df t m o<;>rfl
 cases o
 case call c=>
  obtain⟨callee,args,tys⟩:=c;cases callee with
  |invoke r s=>exact on_ λq=>rfl
  |builtin b=>exact on_ λq=>rfl
  |value f=>
   intro q b ps hq hg;have hq:(evF f G t λv=>PN v λg fs cs=>Wa args.toList G t λvs=>PO vs cs λr=>PO fs r λl=>cf g l m λv m=>q (v,m))=some (b,ps):=hq;have h1:=h0 λv m=>q (v,m);have h1:(evF f G t λv=>PN v λg fs cs=>Wa args.toList G t λvs=>PO vs cs λr=>PO fs r λl=>Eb (df g l m) λv m=>q (v,m))=Eb (Dj P K G df t m (.call ⟨.value f,args,tys⟩)) λv m=>q (v,m):=h1;simp only[BZ,PQ,PR]at hq h1;cases he:ev G t f with
   |none=>rw[he]at hq;cases hq
   |some v=>
    rw[he]at hq h1;simp only[ob_some]at hq h1;cases v<;>try (cases hq;done)
    rename_i fn fs cs;cases fn<;>try (cases hq;done)
    rename_i g;have hq:ob (evs G t args.toList) (λvs=>cf g (fs.toList++(vs++cs.toList)) m λv m=>q (v,m))=some (b,ps):=hq;cases hv:evs G t args.toList with
    |none=>rw[hv]at hq;cases hq
    |some vs=>
     rw[hv]at hq;simp only[ob_some]at hq;obtain⟨a,ha,r⟩:=hcf g _ m q b ps hq hg;refine⟨a,?_,r⟩;show Dj P K G df t m (.call ⟨.value f,args,tys⟩)=some a
     have:Dj P K G df t m (.call ⟨.value f,args,tys⟩)=df g (fs.toList++(vs++cs.toList)) m:=by
      simp only[Dj,B3,Ce,he,hv]
     rw[this,ha]
 all_goals exact on_ λq=>rfl
def Cu(p:Prop)(q:Option (TT β)):Option (TT β):=Option.rec (motive:=λ_=>Option (TT β)) none (λr=>some (r.1,r.2.1,p::r.2.2)) q
theorem CO{p:Prop}{q:Option (TT β)}{b:β}{ps:List (Value×Value)×List Prop}(h:Cu p q=some (b,ps))(hg:G9 ps):p/\∃ps',q=some (b,ps')/\G9 ps':=by
 cases q with
 |none=>cases h
 |some r=>
  have h:some (r.1,r.2.1,p::r.2.2)=some (b,ps):=h;simp only[Option.some.injEq,Prod.mk.injEq]at h;obtain⟨rfl,rfl⟩:=h;exact⟨hg.2 p (List.mem_cons_self ..),r.2,rfl,hg.1,λx hx=>hg.2 x (List.mem_cons_of_mem _ hx)⟩
def MN(x:BI)(off n:Nat):Option (List Value):=match x with| .cells _ c=>if off+n<=c.length then some ((c.drop off).take n)else none|_=>none
def blkNth(x:BI)(off:Nat):Option Value:=match x with| .cells _ c=>c[off]?|_=>none
def ldOk(x:BI)(off:Nat)(g:Bool)(n:Nat)(v:Value):Prop:=match g with|true=>∃l,MN x off n=some l/\v= .agg ⟨l⟩|false=>blkNth x off=some v
def dh(v:Value):Bool:=match v with| .slice _ _ c=>Nat.beq c 0|_=>false
def MO(v:Value):Bool:=match v with| .slice (some ⟨_,o,none⟩) _ _=>Nat.beq o 0|_=>false
def PS(x:BI):Bool:=match x with| .cells _ _=>true|_=>false
def di(v:Value):Nat:=match v with| .slice (some ⟨b,_,_⟩) _ _=>b|_=>0
def cvOk(P:Program)(x:BI)(a b:TypeId)(v u:Value):Prop:=∀m:Mem,m.get (di v)=x->H3 P m a b v=some u
def stOk(P:Program)(x:BI)(ty:TypeId)(off:Nat)(v:Value)(y:BI):Prop:=∀(m:Mem) (b:Nat),m.get b=x->Bx P m ty v (.pointer (some ⟨b,off,none⟩))=some (m.set b y)
def mkOk(P:Program)(G:Nat)(ty:TypeId)(lv cv:Value)(x:BI)(l c:Nat):Prop:=∀t lx cx,ev G t lx=some lv->ev G t cx=some cv->E4 P G t (.makeSlice ty lx cx)=some (x, .slc l c)
def apOk(x:BI)(off z by_ n:Nat)(X:List Value):Prop:=0<n/\n*by_<=140737488355328/\n<=4611686018427387904/\MN x off (n*z)=some X/\X.all one=true/\X.length=n*z
def sx(P:Program)(m:Mem)(tS tX:TypeId)(s x:Value)(X:List Value)(q:Value->Mem->Option (TT β)):Option (TT β):=
 OB s λb0 o0 n0=>OB x λb off n=>match P.underlying tS with
  |some (.slice e)=>(match Bh P e,bytesOf P e with
   |some z,some by_=>cond (Nat.beq tS tX && (Nat.beq n0 0 && (dh s && (MO s && (PS (m.get b0) && (Nat.ble 1 z && (Nat.ble 1 by_ && (D5 P e 1).isSome))))))) (Cu (apOk (m.get b) off z by_ n X) (q (.slice (some ⟨m.size,0,some z⟩) n n) (m.push (.cells true X)))) none
   |_,_=>none)
  |_=>none
def jm(H:Hint)(o:Op):jo (TT β):=match o with
 | .binOp op ty x y yt=>λP K G cf t m q=>match H.cmpAt op ty y with
  |some b=>evF x G t λx=>evF y G t λy=>Cu (CC P K op ty x y=some (.bool b)) (q (.bool b) m)
  |none=>evF y G t λv=>match H.cmpY op ty v with
   |some b=>evF x G t λx=>Cu (CC P K op ty x v=some (.bool b)) (q (.bool b) m)
   |none=>opF (.binOp op ty x y yt) P K G cf t m q
 | .call ⟨.builtin .append,args,tys⟩=>λP K G cf t m q=>match args.toList,tys.toList with
  | [s,x],[tS,tX]=>(match H.apO x with
   |some r=>evF s G t λs=>evF x G t λx=>Cu (Bp P m tS tX s x=some r) (q r.1 r.2)
   |none=>(match H.ap tS with
    |some X=>evF s G t λs=>evF x G t λx=>sx P m tS tX s x X q
    |none=>opF (.call ⟨.builtin .append,args,tys⟩) P K G cf t m q))
  |_,_=>none
 | .load ty a=>λP K G cf t m q=>evF a G t λv=>IX v λb off=>match(match H.ldA a ty with|some u=>some u|none=>H.ld b ty off)with
  |some u=>(match H5 P ty,Bh P ty with|some g,some n=>Cu (ldOk (m.get b) off g n u) (Sc P ty u λu=>q u m)|_,_=>none)
  |none=>opF (.load ty a) P K G cf t m q
 | .slice ty x (some lo) (some hi) none=>λP K G cf t m q=>match H.sl ty with
  |some u=>evF x G t λxv=>evF lo G t λlv=>evF hi G t λhv=>Cu (Lx P ty xv (some lv) (some hv) none=some u) (q u m)
  |none=>opF (.slice ty x (some lo) (some hi) none) P K G cf t m q
 | .store ty a x=>λP K G cf t m q=>evF a G t λav=>IX av λb off=>match H.st ty b with
  |some y=>evF x G t λv=>Cu (stOk P (m.get b) ty off v y) (q undef (m.set b y))
  |none=>opF (.store ty a x) P K G cf t m q
 | .makeSlice ty l c=>λP K G cf t m q=>match H.mks ty with
  |some x=>evF l G t λlv=>evF c G t λcv=>Y.asInt lv (λ_ lz=>Y.asInt cv (λ_ cz=>Cu (mkOk P G ty lv cv x lz.toNat cz.toNat) (q (.slice (some ⟨m.size,0,none⟩) lz.toNat cz.toNat) (m.push x))) none) none
  |none=>opF (.makeSlice ty l c) P K G cf t m q
 | .convert a b y=>λP K G cf t m q=>match H.cv a b with
  |some u=>evF y G t λv=>Cu (cvOk P (m.get (di v)) a b v u) (q u m)
  |none=>opF (.convert a b y) P K G cf t m q
 | .indexAddr ty x i=>λP K G cf t m q=>cond (H.ix ty) (evF x G t λx=>evF i G t λi=>Y.asInt i (λ_ i=>OB x λb off len=>match mO P ty with
   |some (none,size)=>Cu (0<=i/\i< (len:Int)) (q (.pointer (some ⟨b,Nat.add off (Nat.mul i.toNat size),none⟩)) m)
   |_=>none) none) (opF (.indexAddr ty x i) P K G cf t m q)
 |o=>opF o
theorem U6{P:Program}{K:TypeId->Bool}{G:Nat}{cf:CF (TT β)}{df:DF}(H:Hint)(hcf:∀f a m,LC (cf f a m) (df f a m))(o:Op)(t:AE)(m:Mem):LC (jm H o P K G cf t m) (Dj P K G df t m o):=by
 have hoff:(jm H o:jo (TT β))=opF o->LC (jm H o P K G cf t m) (Dj P K G df t m o):=λe=>by
  rw[e];exact Gx hcf o t m
 cases o
 case load ty a=>
  intro q b ps hq hg
  have hq:(evF a G t λv=>IX v λb off=>match(match H.ldA a ty with|some u=>some u|none=>H.ld b ty off)with
   |some u=>(match H5 P ty,Bh P ty with|some g,some n=>Cu (ldOk (m.get b) off g n u) (Sc P ty u λu=>q (u,m))|_,_=>none)
   |none=>opF (.load ty a) P K G cf t m λv m=>q (v,m))=some (b,ps):=hq
  rw[BZ]at hq;cases he:ev G t a with
  |none=>rw[he]at hq;cases hq
  |some v=>
   rw[he]at hq;simp only[ob_some,Fp]at hq
   have key:∀bk off,v= .pointer (some ⟨bk,off,none⟩)->(match(match H.ldA a ty with|some u=>some u|none=>H.ld bk ty off)with
    |some u=>(match H5 P ty,Bh P ty with|some g,some n=>Cu (ldOk (m.get bk) off g n u) (Sc P ty u λu=>q (u,m))|_,_=>none)
    |none=>opF (.load ty a) P K G cf t m λv m=>q (v,m))=some (b,ps)->∃x,Dj P K G df t m (.load ty a)=some x/\∃ps',q x=some (b,ps')/\G9 ps':=by
    rintro bk off rfl hq;cases hh:(match H.ldA a ty with|some u=>some u|none=>H.ld bk ty off)with
    |none=>rw[hh]at hq;exact Gx hcf (.load ty a) t m q b ps hq hg
    |some u=>
     rw[hh]at hq;simp only at hq;cases ha:H5 P ty with
     |none=>rw[ha]at hq;cases hq
     |some g=>
      cases hs:Bh P ty with
      |none=>rw[ha,hs]at hq;cases hq
      |some n=>
       rw[ha,hs]at hq;obtain⟨h1,ps1,h2,g2⟩:=CO hq hg;rw[Hd]at h2
       have hl:Dq P m ty (.pointer (some ⟨bk,off,none⟩))=some u:=by
        cases g with
        |true=>
         obtain⟨l,h3,rfl⟩:=h1;simp only[Dq,ha,hs];unfold MN at h3;unfold Ck;cases hb:m.get bk<;>rw[hb]at h3<;>simp_all
        |false=>
         have h3:blkNth (m.get bk) off=some u:=h1;simp only[Dq,ha];unfold blkNth at h3;cases hb:m.get bk<;>rw[hb]at h3<;>simp_all
       cases hsh:SX P ty (some u)with
       |none=>rw[hsh]at h2;cases h2
       |some u'=>
        rw[hsh]at h2;refine⟨(u',m),?_,ps1,h2,g2⟩;simp only[Dj,B3,BN,he,hl,hsh]
   cases v<;>try (cases hq;done)
   rename_i ad;cases ad with
   |none=>cases hq
   |some ad=>
    obtain⟨bk,off,sp⟩:=ad;cases sp with
    |some _=>cases hq
    |none=>exact key bk off rfl hq
 case indexAddr ty x i=>
  intro q b ps hq hg
  have hq:(cond (H.ix ty) (evF x G t λx=>evF i G t λi=>Y.asInt i (λ_ i=>OB x λb off len=>match mO P ty with
   |some (none,size)=>Cu (0<=i/\i< (len:Int)) (q (.pointer (some ⟨b,Nat.add off (Nat.mul i.toNat size),none⟩),m))
   |_=>none) none) (opF (.indexAddr ty x i) P K G cf t m λv m=>q (v,m)))=some (b,ps):=hq
  cases hx:H.ix ty with
  |false=>rw[hx]at hq;exact Gx hcf (.indexAddr ty x i) t m q b ps hq hg
  |true=>
   rw[hx]at hq;simp only[cond_true,BZ]at hq;cases he:ev G t x with
   |none=>rw[he]at hq;cases hq
   |some xv=>
    rw[he]at hq;simp only[ob_some]at hq;cases hi:ev G t i with
    |none=>rw[hi]at hq;cases hq
    |some iv=>
     rw[hi]at hq;simp only[ob_some]at hq;cases iv<;>try (cases hq;done)
     rename_i ik iz;cases xv<;>try (cases hq;done)
     rename_i sa sn sc;cases sa with
     |none=>cases hq
     |some sa=>
      obtain⟨bk,off,sp⟩:=sa
      have hq:(match mO P ty with
       |some (none,size)=>Cu (0<=iz/\iz< (sn:Int)) (q (.pointer (some ⟨bk,Nat.add off (Nat.mul iz.toNat size),none⟩),m))
       |_=>none)=some (b,ps):=hq
      unfold mO at hq;cases hu:P.underlying ty with
      |none=>rw[hu]at hq;cases hq
      |some d=>
       rw[hu]at hq;cases d<;>try (cases hq;done)
       ·rename_i e;simp only at hq;cases hs:Bh P e with
        |none=>rw[hs]at hq;cases hq
        |some size=>
         rw[hs]at hq;simp only at hq;obtain⟨h1,ps1,h2,g2⟩:=CO hq hg;refine⟨(_,m),?_,ps1,h2,g2⟩;simp only[Dj,B3,BN,he,hi,EI,hu,hs,if_pos h1];rfl
       ·rename_i len e;simp only at hq;cases hs:Bh P e<;>rw[hs]at hq<;>cases hq
 case slice ty x lo hi mx=>
  cases lo with
  |none=>exact hoff rfl
  |some lo=>
  cases hi with
  |none=>exact hoff rfl
  |some hi=>
  cases mx with
  |some mx=>exact hoff rfl
  |none=>
  intro q b ps hq hg
  have hq:(match H.sl ty with
   |some u=>evF x G t λxv=>evF lo G t λlv=>evF hi G t λhv=>Cu (Lx P ty xv (some lv) (some hv) none=some u) (q (u,m))
   |none=>opF (.slice ty x (some lo) (some hi) none) P K G cf t m λv m=>q (v,m))=some (b,ps):=hq
  cases hc:H.sl ty with
  |none=>rw[hc]at hq;exact Gx hcf (.slice ty x (some lo) (some hi) none) t m q b ps hq hg
  |some u=>
   rw[hc]at hq;simp only[BZ]at hq;cases he:ev G t x with
   |none=>rw[he]at hq;cases hq
   |some xv=>
    rw[he]at hq;simp only[ob_some]at hq;cases h2:ev G t lo with
    |none=>rw[h2]at hq;cases hq
    |some lv=>
     rw[h2]at hq;simp only[ob_some]at hq;cases h3:ev G t hi with
     |none=>rw[h3]at hq;cases hq
     |some hv=>
      rw[h3]at hq;simp only[ob_some]at hq;obtain⟨h4,ps1,h5,g5⟩:=CO hq hg;refine⟨(u,m),?_,ps1,h5,g5⟩;simp only[Dj,B3,BN,he,IW,h2,h3,h4]
 case store ty a x=>
  intro q b ps hq hg
  have hq:(evF a G t λav=>IX av λb off=>match H.st ty b with
   |some y=>evF x G t λv=>Cu (stOk P (m.get b) ty off v y) (q (undef,m.set b y))
   |none=>opF (.store ty a x) P K G cf t m λv m=>q (v,m))=some (b,ps):=hq
  rw[BZ]at hq;cases he:ev G t a with
  |none=>rw[he]at hq;cases hq
  |some av=>
   rw[he]at hq;simp only[ob_some,Fp]at hq;cases av<;>try (cases hq;done)
   rename_i ad;cases ad with
   |none=>cases hq
   |some ad=>
    obtain⟨bk,off,sp⟩:=ad;cases sp with
    |some _=>cases hq
    |none=>
     have hq:(match H.st ty bk with
      |some y=>evF x G t λv=>Cu (stOk P (m.get bk) ty off v y) (q (undef,m.set bk y))
      |none=>opF (.store ty a x) P K G cf t m λv m=>q (v,m))=some (b,ps):=hq
     cases hc:H.st ty bk with
     |none=>rw[hc]at hq;exact Gx hcf (.store ty a x) t m q b ps hq hg
     |some y=>
      rw[hc]at hq;simp only[BZ]at hq;cases hi:ev G t x with
      |none=>rw[hi]at hq;cases hq
      |some v=>
       rw[hi]at hq;simp only[ob_some]at hq;obtain⟨h1,ps1,h2,g2⟩:=CO hq hg;refine⟨(undef,m.set bk y),?_,ps1,h2,g2⟩;simp only[Dj,B3,Ce,he,hi,h1 m bk rfl]
 case makeSlice ty l c=>
  intro q b ps hq hg
  have hq:(match H.mks ty with
   |some x=>evF l G t λlv=>evF c G t λcv=>Y.asInt lv (λ_ lz=>Y.asInt cv (λ_ cz=>Cu (mkOk P G ty lv cv x lz.toNat cz.toNat) (q (.slice (some ⟨m.size,0,none⟩) lz.toNat cz.toNat,m.push x))) none) none
   |none=>opF (.makeSlice ty l c) P K G cf t m λv m=>q (v,m))=some (b,ps):=hq
  cases hc:H.mks ty with
  |none=>rw[hc]at hq;exact Gx hcf (.makeSlice ty l c) t m q b ps hq hg
  |some x=>
   rw[hc]at hq;simp only[BZ]at hq;cases he:ev G t l with
   |none=>rw[he]at hq;cases hq
   |some lv=>
    rw[he]at hq;simp only[ob_some]at hq;cases hi:ev G t c with
    |none=>rw[hi]at hq;cases hq
    |some cv=>
     rw[hi]at hq;simp only[ob_some]at hq;cases lv<;>try (cases hq;done)
     cases cv<;>try (cases hq;done)
     obtain⟨h1,ps1,h2,g2⟩:=CO hq hg;refine⟨(_,m.push x),?_,ps1,h2,g2⟩;simp only[Dj,B3,h1 t l c he hi];rfl
 case convert a b' y=>
  intro q b ps hq hg
  have hq:(match H.cv a b' with
   |some u=>evF y G t λv=>Cu (cvOk P (m.get (di v)) a b' v u) (q (u,m))
   |none=>opF (.convert a b' y) P K G cf t m λv m=>q (v,m))=some (b,ps):=hq
  cases hc:H.cv a b' with
  |none=>rw[hc]at hq;exact Gx hcf (.convert a b' y) t m q b ps hq hg
  |some u=>
   rw[hc]at hq;simp only[BZ]at hq;cases he:ev G t y with
   |none=>rw[he]at hq;cases hq
   |some v=>
    rw[he]at hq;simp only[ob_some]at hq;obtain⟨h1,ps1,h2,g2⟩:=CO hq hg;refine⟨(_,m),?_,ps1,h2,g2⟩;simp only[Dj,B3,BN,he,h1 m rfl]
 case binOp op ty x y yt=>
  intro q b ps hq hg
  have hq:(match H.cmpAt op ty y with
   |some b=>evF x G t λx=>evF y G t λy=>Cu (CC P K op ty x y=some (.bool b)) (q (.bool b,m))
   |none=>evF y G t λv=>match H.cmpY op ty v with
    |some b=>evF x G t λx=>Cu (CC P K op ty x v=some (.bool b)) (q (.bool b,m))
    |none=>opF (.binOp op ty x y yt) P K G cf t m λv m=>q (v,m))=some (b,ps):=hq
  cases hc:H.cmpAt op ty y with
  |none=>
   rw[hc]at hq;simp only[BZ]at hq;cases hi:ev G t y with
   |none=>rw[hi]at hq;cases hq
   |some yv=>
    rw[hi]at hq;simp only[ob_some]at hq;cases hy:H.cmpY op ty yv with
    |none=>rw[hy]at hq;exact Gx hcf (.binOp op ty x y yt) t m q b ps hq hg
    |some w=>
     rw[hy]at hq;simp only at hq;cases he:ev G t x with
     |none=>rw[he]at hq;cases hq
     |some xv=>
      rw[he]at hq;simp only[ob_some]at hq;obtain⟨h1,ps1,h2,g2⟩:=CO hq hg;refine⟨(_,m),?_,ps1,h2,g2⟩;simp only[Dj,B3,BN,he,hi,h1]
  |some w=>
   rw[hc]at hq;simp only[BZ]at hq;cases he:ev G t x with
   |none=>rw[he]at hq;cases hq
   |some xv=>
    rw[he]at hq;simp only[ob_some]at hq;cases hi:ev G t y with
    |none=>rw[hi]at hq;cases hq
    |some yv=>
     rw[hi]at hq;simp only[ob_some]at hq;obtain⟨h1,ps1,h2,g2⟩:=CO hq hg;refine⟨(_,m),?_,ps1,h2,g2⟩;simp only[Dj,B3,BN,he,hi,h1]
 case call c=>
  obtain⟨callee,args,tys⟩:=c;cases callee with
  |value f=>exact hoff rfl
  |invoke r s=>exact hoff rfl
  |builtin bi=>
   by_cases hb:bi= .append
   ·subst hb;intro q b ps hq hg
    have hq:(match args.toList,tys.toList with
     | [s,x],[tS,tX]=>(match H.apO x with
      |some r=>evF s G t λs=>evF x G t λx=>Cu (Bp P m tS tX s x=some r) (q r)
      |none=>(match H.ap tS with
       |some X=>evF s G t λs=>evF x G t λx=>sx P m tS tX s x X λv m=>q (v,m)
       |none=>opF (.call ⟨.builtin .append,args,tys⟩) P K G cf t m λv m=>q (v,m)))
     |_,_=>none)=some (b,ps):=hq
    split at hq<;>try (cases hq;done)
    rename_i s x tS tX ha ht;cases hO:H.apO x with
    |some r=>
     rw[hO]at hq;simp only[BZ]at hq;cases he:ev G t s with
     |none=>rw[he]at hq;cases hq
     |some sv=>
      rw[he]at hq;simp only[ob_some]at hq;cases hi:ev G t x with
      |none=>rw[hi]at hq;cases hq
      |some xv=>
       rw[hi]at hq;simp only[ob_some]at hq;obtain⟨h1,ps1,h2,g2⟩:=CO hq hg;refine⟨r,?_,ps1,h2,g2⟩;simp only[Dj,B3,Ce,ha,ht,he,hi,h1]
    |none=>
    rw[hO]at hq;simp only at hq;cases hp:H.ap tS with
    |none=>rw[hp]at hq;exact Gx hcf (.call ⟨.builtin .append,args,tys⟩) t m q b ps hq hg
    |some X=>
     rw[hp]at hq;simp only[BZ]at hq;cases he:ev G t s with
     |none=>rw[he]at hq;cases hq
     |some sv=>
      rw[he]at hq;simp only[ob_some]at hq;cases hi:ev G t x with
      |none=>rw[hi]at hq;cases hq
      |some xv=>
       rw[hi]at hq;simp only[ob_some]at hq;cases sv<;>try (cases hq;done)
       rename_i sa sn sc;cases sa with
       |none=>cases hq
       |some sa=>
       obtain⟨b0,o0,sp0⟩:=sa;cases xv<;>try (cases hq;done)
       rename_i xa xn xc;cases xa with
       |none=>cases hq
       |some xa=>
       obtain⟨bk,off,sp⟩:=xa
       have hq2:(match P.underlying tS with
        |some (.slice e)=>(match Bh P e,bytesOf P e with
         |some z,some by_=>cond (Nat.beq tS tX && (Nat.beq sn 0 && (dh (.slice (some ⟨b0,o0,sp0⟩) sn sc) && (MO (.slice (some ⟨b0,o0,sp0⟩) sn sc) && (PS (m.get b0) && (Nat.ble 1 z && (Nat.ble 1 by_ && (D5 P e 1).isSome))))))) (Cu (apOk (m.get bk) off z by_ xn X) (q (.slice (some ⟨m.size,0,some z⟩) xn xn,m.push (.cells true X)))) none
         |_,_=>none)
        |_=>none)=some (b,ps):=hq
       split at hq2<;>try (cases hq2;done)
       rename_i e hu;split at hq2<;>try (cases hq2;done)
       rename_i z by_ hz hby
       cases hk:(Nat.beq tS tX && (Nat.beq sn 0 && (dh (.slice (some ⟨b0,o0,sp0⟩) sn sc) && (MO (.slice (some ⟨b0,o0,sp0⟩) sn sc) && (PS (m.get b0) && (Nat.ble 1 z && (Nat.ble 1 by_ && (D5 P e 1).isSome)))))))with
       |false=>rw[hk]at hq2;cases hq2
       |true=>
        rw[hk]at hq2;simp only[Bool.and_eq_true,Nat.beq_eq]at hk;obtain⟨k1,k2,k3,k4,k5,k6,k7,k8⟩:=hk;subst k1 k2;cases sp0 with
        |some _=>simp[MO]at k4
        |none=>
        have e4:o0=0:=by simpa[MO]using k4
        have e3:sc=0:=by simpa[dh]using k3
        subst e3 e4;obtain⟨⟨h0,h1,h2,h3,h4,h5⟩,ps1,h6,g6⟩:=CO hq2 hg;refine⟨_,?_,ps1,h6,g6⟩
        have hf:CG m z xn (.slice (some ⟨bk,off,sp⟩) xn xc)=some X:=by
         show Ck m bk off (xn*z)=some X;unfold MN at h3;unfold Ck;cases hb:m.get bk<;>rw[hb]at h3<;>simp_all
        have hf0:CG m z 0 (.slice (some ⟨b0,0,none⟩) 0 0)=some []:=by
         show Ck m b0 0 (0*z)=some [];unfold Ck;cases hb:m.get b0<;>rw[hb]at k5<;>simp_all [PS]
        have h6':1<=z:=Nat.le_of_ble_eq_true k6;have h7':1<=by_:=Nat.le_of_ble_eq_true k7
        have key:Bp P m tS tS (.slice (some ⟨b0,0,none⟩) 0 0) (.slice (some ⟨bk,off,sp⟩) xn xc)=some (.slice (some ⟨m.size,0,some z⟩) xn xn,m.push (.cells true X)):=by
         unfold Bp;simp only[hu,hz,hby,lenOf,hf,hf0];rw[if_neg (by omega),if_neg (by omega),if_pos ⟨by rw[Nat.zero_add];exact h1,by omega,by omega,k8⟩,if_pos ⟨by rw[h4];rfl,by simp,h5⟩];simp
        simp only[Dj,B3,Ce,ha,ht,he,hi,key]
   ·exact hoff (by cases bi<;>first|rfl|exact absurd rfl hb)
 all_goals exact hoff rfl
end
def Y9(H:Hint)(l:List Oper):dj (TT β):=
 List.rec (motive:=λ_=>dj (TT β)) (λ_ _ _ _ _ _ t m q=>q [] t m)
  (λo _ ih P K G cf n ops t m q=>Bool.rec (motive:=λ_=>Option (TT β)) none (Bool.rec (motive:=λ_=>Option (TT β)) (putOF t o.dst undef λt'=>ih P K G cf n ops t' m λrs t' m''=>q (⟨false,undef,t,m⟩::rs) t' m'')
   (jm H o.op P K G cf t m λv m'=>putOF t o.dst v λt'=>ih P K G cf n ops t' m' λrs t' m''=>q (⟨true,v,t,m⟩::rs) t' m'') (wantF o ops t)) (dstF n o.dst)) l
def opsH(H:Hint)(l:List Oper):dk (TT β):=
 List.rec (motive:=λ_=>dk (TT β)) (λ_ _ _ _ _ _ t m q=>q t m)
  (λo _ ih P K G cf n ops t m q=>Bool.rec (motive:=λ_=>Option (TT β)) none (Bool.rec (motive:=λ_=>Option (TT β)) (putOF t o.dst undef λt'=>ih P K G cf n ops t' m q)
   (jm H o.op P K G cf t m λv m'=>putOF t o.dst v λt'=>ih P K G cf n ops t' m' q) (wantF o ops t)) (dstF n o.dst)) l
section
variable{P:Program}{K:TypeId->Bool}{G:Nat}{cf:CF (TT β)}{df:DF}
theorem PT(H:Hint)(hcf:∀f a m,LC (cf f a m) (df f a m))(n:Nat)(ops:List Oper):∀(l:List Oper) (t:AE) (m:Mem),rX (Y9 H l P K G cf n ops t m) (Gd P K G df n ops l t m)
 | [],t,m=>W0.on λq=>rfl
 |o::l,t,m=>λq b ps hq hg=>by
  have hq:Bool.rec (motive:=λ_=>Option (TT β)) none (Bool.rec (motive:=λ_=>Option (TT β)) (putOF t o.dst undef λt'=>Y9 H l P K G cf n ops t' m λrs t' m''=>q (⟨false,undef,t,m⟩::rs,t',m''))
   (jm H o.op P K G cf t m λv m'=>putOF t o.dst v λt'=>Y9 H l P K G cf n ops t' m' λrs t' m''=>q (⟨true,v,t,m⟩::rs,t',m'')) (wantF o ops t)) (dstF n o.dst)=some (b,ps):=hq
  simp only[J0,J1,LP]at hq;simp only[Gd];cases hd:Gb n o.dst with
  |false=>rw[hd]at hq;cases hq
  |true=>
   rw[hd]at hq;cases hw:Region.wanted o (EG ops t)with
   |false=>
    rw[hw]at hq;obtain⟨⟨rs,t',m'⟩,h1,h2⟩:=PT H hcf n ops l (putD t o.dst undef) m (λp=>q (⟨false,undef,t,m⟩::p.1,p.2.1,p.2.2)) b ps hq hg;exact⟨_,by simp only[if_true,h1];rfl,h2⟩
   |true=>
    rw[hw]at hq;obtain⟨⟨v,m1⟩,h1,ps1,h2,g2⟩:=U6 H hcf o.op t m (λp=>Y9 H l P K G cf n ops (putD t o.dst p.1) p.2 λrs t' m''=>q (⟨true,p.1,t,m⟩::rs,t',m'')) b ps hq hg;obtain⟨⟨rs,t',m'⟩,h3,h4⟩:=PT H hcf n ops l (putD t o.dst v) m1 (λp=>q (⟨true,v,t,m⟩::p.1,p.2.1,p.2.2)) b ps1 h2 g2;exact⟨_,by simp only[if_true,h1,h3],h4⟩
theorem ops_fac(H:Hint)(hcf:∀f a m,LC (cf f a m) (df f a m))(n:Nat)(ops:List Oper):∀(l:List Oper) (t:AE) (m:Mem),nF (opsH H l P K G cf n ops t m) (FF P K G df n ops l t m)
 | [],t,m=>W0.on λq=>rfl
 |o::l,t,m=>λq b ps hq hg=>by
  have hq:Bool.rec (motive:=λ_=>Option (TT β)) none (Bool.rec (motive:=λ_=>Option (TT β)) (putOF t o.dst undef λt'=>opsH H l P K G cf n ops t' m λt' m''=>q (t',m''))
   (jm H o.op P K G cf t m λv m'=>putOF t o.dst v λt'=>opsH H l P K G cf n ops t' m' λt' m''=>q (t',m'')) (wantF o ops t)) (dstF n o.dst)=some (b,ps):=hq
  simp only[J0,J1,LP]at hq;simp only[FF];cases hd:Gb n o.dst with
  |false=>rw[hd]at hq;cases hq
  |true=>
   rw[hd]at hq;cases hw:Region.wanted o (EG ops t)with
   |false=>
    rw[hw]at hq;obtain⟨a,h1,h2⟩:=ops_fac H hcf n ops l (putD t o.dst undef) m q b ps hq hg;exact⟨a,by simp only[if_true];exact h1,h2⟩
   |true=>
    rw[hw]at hq;obtain⟨⟨v,m1⟩,h1,ps1,h2,g2⟩:=U6 H hcf o.op t m (λp=>opsH H l P K G cf n ops (putD t o.dst p.1) p.2 λt' m''=>q (t',m'')) b ps hq hg;obtain⟨a,h3,h4⟩:=ops_fac H hcf n ops l (putD t o.dst v) m1 q b ps1 h2 g2;exact⟨a,by simp only[if_true,h1];exact h3,h4⟩
end
def bM(v' v:Value)(q:Option (TT β)):Option (TT β):=Bool.rec (motive:=λ_=>Option (TT β)) none (Option.rec (motive:=λ_=>Option (TT β)) none (λp=>some (p.1,(v',v)::p.2.1,p.2.2)) q) (Ya 8 v)
def jq(H:Hint)(P:Program)(K:TypeId->Bool)(G:Nat)(ops:List Oper)(rs:List Rec)(m':Mem)(x:Nat×Nat)(q:Option (TT β)):Option (TT β):=
 match rs[x.1]?,ops[x.1]? with
 |some r,some o=>Bool.rec (motive:=λ_=>Option (TT β)) q (match o.op with
   | .load ty a=>evF a G r.t λv=>IX v λb off=>match H.ld b ty off with
    |some u=>(match H5 P ty,Bh P ty with|some g,some n=>Cu (ldOk ((CI rs m' x.2).get b) off g n u) (Sc P ty u λv'=>bM v' r.v q)|_,_=>none)
    |none=>Ko P (CI rs m' x.2) ty v λv=>Sc P ty v λv'=>bM v' r.v q
   | .convert a b y=>evF y G r.t λv=>(match H.cv a b with
    |some u=>Cu (cvOk P ((CI rs m' x.2).get (di v)) a b v u) (bM u r.v q)
    |none=>ob (H3 P (CI rs m' x.2) a b v) λv'=>bM v' r.v q)
   | .call c=>(match BN P K G r.t (CI rs m' x.2) (.call c)with
    |some v'=>bM v' r.v q
    |none=>none)
   |_=>Bool.rec (motive:=λ_=>Option (TT β)) none q (HP P K G ops rs m' x)) r.want
 |_,_=>none
theorem He{v' v:Value}{q:Option (TT β)}{b:β}{ps:List (Value×Value)×List Prop}(h:bM v' v q=some (b,ps))(hg:G9 ps):Nv 8 v' v=true/\∃ps',q=some (b,ps')/\G9 ps':=by
 unfold bM at h
 cases hs:Ya 8 v with
 |false=>rw[hs]at h;cases h
 |true=>
  rw[hs]at h;cases q with
  |none=>cases h
  |some p=>
   have h:some (p.1,(v',v)::p.2.1,p.2.2)=some (b,ps):=h;simp only[Option.some.injEq,Prod.mk.injEq]at h;obtain⟨rfl,rfl⟩:=h;have e:v'=v:=hg.1 (v',v) (List.mem_cons_self ..);subst e;exact⟨Qb 8 _ hs,p.2,rfl,λx hx=>hg.1 x (List.mem_cons_of_mem _ hx),hg.2⟩
theorem Wb{H:Hint}{P:Program}{K:TypeId->Bool}{G:Nat}{ops:List Oper}{rs:List Rec}{m':Mem}{x:Nat×Nat}{q:Option (TT β)}{b:β}{ps:List (Value×Value)×List Prop}(h:jq H P K G ops rs m' x q=some (b,ps))(hg:G9 ps):HP P K G ops rs m' x=true/\∃ps',q=some (b,ps')/\G9 ps':=by
 unfold jq at h
 have hc:HP P K G ops rs m' x=(match rs[x.1]?,ops[x.1]? with
  |some r,some o=> !r.want||(match BN P K G r.t (CI rs m' x.2) o.op with|some v=>Nv 8 v r.v|none=>false)
  |_,_=>false):=rfl
 cases hr:rs[x.1]? with
 |none=>rw[hr]at h;cases h
 |some r=>
  cases ho:ops[x.1]? with
  |none=>rw[hr,ho]at h;cases h
  |some o=>
   rw[hr,ho]at hc h;simp only at hc h;cases hw:r.want with
   |false=>
    rw[hw]at hc h;exact⟨by rw[hc];rfl,ps,h,hg⟩
   |true=>
    rw[hw]at h;simp only at h
    have hgen:Bool.rec (motive:=λ_=>Option (TT β)) none q (HP P K G ops rs m' x)=some (b,ps)->HP P K G ops rs m' x=true/\∃ps',q=some (b,ps')/\G9 ps':=λh=>by
     cases hk:HP P K G ops rs m' x with
     |false=>rw[hk]at h;cases h
     |true=>rw[hk]at h;exact⟨rfl,ps,h,hg⟩
    cases hop:o.op<;>rw[hop]at h<;>try (exact hgen h)
    case convert a b' y=>
     rw[hc,hw,hop];simp only[BZ]at h;simp only[BN,Bool.not_true,Bool.false_or];cases he:ev G r.t y with
     |none=>rw[he]at h;cases h
     |some v=>
      rw[he]at h;simp only[ob_some]at h;cases hcv:H.cv a b' with
      |some u=>
       rw[hcv]at h;simp only at h;obtain⟨h1,ps1,h2,g2⟩:=CO h hg;simp only[h1 _ rfl];exact He h2 g2
      |none=>
      rw[hcv]at h;simp only at h;cases hv:H3 P (CI rs m' x.2) a b' v with
      |none=>rw[hv]at h;cases h
      |some v'=>rw[hv]at h;simp only[hv];exact He h hg
    case call c=>
     rw[hc,hw,hop];simp only[Bool.not_true,Bool.false_or]
     have h:(match BN P K G r.t (CI rs m' x.2) (.call c)with
      |some v'=>bM v' r.v q
      |none=>none)=some (b,ps):=h
     cases hv:BN P K G r.t (CI rs m' x.2) (.call c)with
     |none=>rw[hv]at h;cases h
     |some v'=>rw[hv]at h;exact He h hg
    rename_i ty a;rw[hc,hw,hop];simp only[BZ]at h;simp only[BN,Bool.not_true,Bool.false_or];cases he:ev G r.t a with
    |none=>rw[he]at h;cases h
    |some v=>
     rw[he]at h;simp only[ob_some,Fp]at h ⊢
     have key:∀bk off,v= .pointer (some ⟨bk,off,none⟩)->(match H.ld bk ty off with
      |some u=>(match H5 P ty,Bh P ty with|some g,some n=>Cu (ldOk ((CI rs m' x.2).get bk) off g n u) (Sc P ty u λv'=>bM v' r.v q)|_,_=>none)
      |none=>Ko P (CI rs m' x.2) ty v λv=>Sc P ty v λv'=>bM v' r.v q)=some (b,ps)->(match SX P ty (Dq P (CI rs m' x.2) ty v)with|some v=>Nv 8 v r.v|none=>false)=true/\∃ps',q=some (b,ps')/\G9 ps':=by
      rintro bk off rfl h;cases hh:H.ld bk ty off with
      |none=>
       rw[hh]at h;simp only[J2,Hd]at h;cases hl:Dq P (CI rs m' x.2) ty (.pointer (some ⟨bk,off,none⟩))with
       |none=>rw[hl]at h;cases h
       |some u=>
        rw[hl]at h;simp only[ob_some]at h;cases hs:SX P ty (some u)with
        |none=>rw[hs]at h;cases h
        |some u'=>
         rw[hs]at h;simp only[ob_some]at h;simp only[hs];exact He h hg
      |some u=>
       rw[hh]at h;simp only at h;cases ha:H5 P ty with
       |none=>rw[ha]at h;cases h
       |some g=>
        cases hs:Bh P ty with
        |none=>rw[ha,hs]at h;cases h
        |some n=>
         rw[ha,hs]at h;obtain⟨h1,ps1,h2,g2⟩:=CO h hg;rw[Hd]at h2
         have hl:Dq P (CI rs m' x.2) ty (.pointer (some ⟨bk,off,none⟩))=some u:=by
          cases g with
          |true=>
           obtain⟨l,h3,rfl⟩:=h1;simp only[Dq,ha,hs];unfold MN at h3;unfold Ck;cases hb:(CI rs m' x.2).get bk<;>rw[hb]at h3<;>simp_all
          |false=>
           have h3:blkNth ((CI rs m' x.2).get bk) off=some u:=h1;simp only[Dq,ha];unfold blkNth at h3;cases hb:(CI rs m' x.2).get bk<;>rw[hb]at h3<;>simp_all
         rw[hl];cases hsh:SX P ty (some u)with
         |none=>rw[hsh]at h2;cases h2
         |some u'=>
          rw[hsh]at h2;simp only[ob_some]at h2;simp only[hsh];exact He h2 g2
     cases v<;>try (cases h;done)
     rename_i ad;cases ad with
     |none=>cases h
     |some ad=>
      obtain⟨bk,off,sp⟩:=ad;cases sp with
      |some _=>cases h
      |none=>exact key bk off rfl h
def U7(H:Hint)(P:Program)(K:TypeId->Bool)(G:Nat)(ops:List Oper)(rs:List Rec)(m':Mem)(l:List (Nat×Nat))(q:Option (TT β)):Option (TT β):=
 List.rec (motive:=λ_=>Option (TT β)) q (λx _ ih=>jq H P K G ops rs m' x ih) l
theorem MP{H:Hint}{P:Program}{K:TypeId->Bool}{G:Nat}{ops:List Oper}{rs:List Rec}{m':Mem}{q:Option (TT β)}{b:β}:∀{l:List (Nat×Nat)} {ps:List (Value×Value)×List Prop},U7 H P K G ops rs m' l q=some (b,ps)->G9 ps->l.all (HP P K G ops rs m')=true/\∃ps',q=some (b,ps')/\G9 ps'
 | [],ps,h,hg=>⟨rfl,ps,h,hg⟩
 |x::l,ps,h,hg=>by
  obtain⟨h1,ps1,h2,g2⟩:=Wb (q:=U7 H P K G ops rs m' l q) h hg;obtain⟨h3,r⟩:=MP h2 g2;exact⟨by rw[List.all_cons,h1,h3];rfl,r⟩
def U8(H:Hint)(P:Program)(K:TypeId->Bool)(G:Nat)(cf:CF (TT β))(n:Nat)(ops:List Oper)(t:AE)(m:Mem)(q:AE->Mem->Option (TT β)):Option (TT β):=
 Bool.rec (motive:=λ_=>Option (TT β)) none (Y9 H ops P K G cf n ops t m λrs t' m'=>U7 H P K G ops rs m' (KP ops) (Bool.rec (motive:=λ_=>Option (TT β)) none (q t' m')
  ((Ip ops).all (Q5 rs m')))) (Qc ops)
theorem Yb(H:Hint){P:Program}{K:TypeId->Bool}{G:Nat}{cf:CF (TT β)}{df:DF}(hcf:∀f a m,LC (cf f a m) (df f a m))(n:Nat)(ops:List Oper)(t:AE)(m:Mem):nF (U8 H P K G cf n ops t m) (A6 P K G df n ops t m):=λq b ps hq hg=>by
 have hq:U8 H P K G cf n ops t m (λt' m'=>q (t',m'))=some (b,ps):=hq
 unfold U8 at hq
 unfold A6
 simp only[Qd]at hq
 cases hs:Kj ops (Ci ops [])with
 |false=>rw[hs]at hq;cases hq
 |true=>
  rw[hs]at hq;obtain⟨⟨rs,t',m'⟩,h1,ps1,h2,g2⟩:=PT H hcf n ops ops t m (λp=>U7 H P K G ops p.1 p.2.2 (KP ops) (Bool.rec (motive:=λ_=>Option (TT β)) none (q (p.2.1,p.2.2)) ((Ip ops).all (Q5 p.1 p.2.2)))) b ps hq hg;obtain⟨h3,ps2,h4,g4⟩:=MP h2 g2;simp only at h4;cases h5:(Ip ops).all (Q5 rs m')with
  |false=>rw[h5]at h4;cases h4
  |true=>
   rw[h5]at h4;refine⟨(t',m'),?_,ps2,h4,g4⟩;simp only[if_true,h1];rw[if_pos (by rw[←FA (MQ ops)];exact h3),if_pos (by rw[←FA (MR ops)];exact h5)]
def codeT(H:Hint)(c:Code):U9 (TT β):=
 Code.rec (motive:=λ_=>U9 (TT β))
  (λ_ _ _ _ _ _ _ t m q=>q .normal t m)
  (λ_ ops draw P K G cf _ n _ t m q=>Bool.rec (motive:=λ_=>Option (TT β)) (opsH H ops.toList P K G cf n ops.toList t m λt m=>q .normal t m) (U8 H P K G cf n ops.toList t m λt m=>q .normal t m) draw)
  (λ_ _ ia ib P K G cf L n k t m q=>ia P K G cf L n k t m λe t m=>Ex.rec (motive:=λ_=>Option (TT β)) (ib P K G cf L n k t m q) (λid=>q (.exit id) t m) (q .ret t m) e)
  (λc _ _ ix iy P K G cf L n k t m q=>evF c G t λv=>Y.asBool v (ix P K G cf L n k t m q) (iy P K G cf L n k t m q))
  (λid _ ib P K G cf L n k t m q=>ib P K G cf L n k t m λe t m=>Ex.rec (motive:=λ_=>Option (TT β)) (q .normal t m) (λid'=>Bool.rec (motive:=λ_=>Option (TT β)) (q (.exit id') t m) (q .normal t m) (Nat.beq id' id)) (q .ret t m) e)
  (λc ib P K G cf L n k t m q=>L (λt m q=>ib P K G cf L n k t m q) c k t m q)
  (λ_ _ _ _ _ _ _ _ _ _ _ _ _ _ _ _=>none)
  (λid _ _ _ _ _ _ _ t m q=>q (.exit id) t m)
  (λ_ ic P K G cf L n k t m q=>ic P K G cf L n k t m q)
  (λ_ _ _ _ _ _ _ _ t m q=>q .normal t m)
  (λ_ _ _ _ _ _ _ _ _ _ _=>none)
  (λ_ _ _ _ _ _ _ t m q=>q .ret t m)
  (λ_ _ _ _ _ _ _ _ _ _ _=>none)
  c
def sy(body:AE->Mem->ExK (TT β)->Option (TT β))(k:Nat):AE->Mem->ExK (TT β)->Option (TT β):=loopF body k
theorem Qe{body:AE->Mem->ExK (TT β)->Option (TT β)}{b:AE->Mem->Option (Ex×AE×Mem)}(hb:∀t m,jl (body t m) (b t m)):∀(k:Nat) (t:AE) (m:Mem),jl (loopF body k t m) (B2 b k t m)
 |0,t,m=>λq x ps hq hg=>by cases hq
 |k+1,t,m=>λq x ps hq hg=>by
  have hq:(body t m λe t' m'=>Ex.rec (motive:=λ_=>Option (TT β)) (loopF body k t' m' λe t m=>q (e,t,m)) (λid=>q (.exit id,t',m')) (q (.ret,t',m')) e)=some (x,ps):=hq;obtain⟨⟨e,t',m'⟩,h1,ps1,h2,g2⟩:=hb t m (λp=>Ex.rec (motive:=λ_=>Option (TT β)) (loopF body k p.2.1 p.2.2 λe t m=>q (e,t,m)) (λid=>q (.exit id,p.2.1,p.2.2)) (q (.ret,p.2.1,p.2.2)) p.1) x ps hq hg;simp only[B2,h1];cases e with
  |normal=>exact Qe hb k t' m' q x ps1 h2 g2
  |exit id=>exact⟨_,rfl,ps1,h2,g2⟩
  |ret=>exact⟨_,rfl,ps1,h2,g2⟩
theorem Qf(H:Hint){P:Program}{K:TypeId->Bool}{G:Nat}{cf:CF (TT β)}{df:DF}(hcf:∀f a m,LC (cf f a m) (df f a m))(n k:Nat):∀(c:Code) (t:AE) (m:Mem),jl (codeT H c P K G cf (λbody _ k t m q=>loopF body k t m q) n k t m) (AH P K G df (A6 P K G df n) n k c t m):=by
 intro c
 induction c with
 |skip=>intro t m;exact W0.on λq=>rfl
 |label l=>intro t m;exact W0.on λq=>rfl
 |exit id=>intro t m;exact W0.on λq=>rfl
 |ret=>intro t m;exact W0.on λq=>rfl
 |rangeFunc=>intro t m q b ps hq;cases hq
 |scope c ih=>intro t m;exact ih t m
 |goto=>intro t m q b ps hq;cases hq
 |refuse=>intro t m q b ps hq;cases hq
 |region id ops draw=>
  intro t m q b ps hq hg;cases draw with
  |false=>
   obtain⟨⟨t',m'⟩,h1,r⟩:=ops_fac H hcf n ops.toList ops.toList t m (λp=>q (.normal,p.1,p.2)) b ps hq hg;exact⟨(.normal,t',m'),by simp only[AH,cond_false,h1],r⟩
  |true=>
   obtain⟨⟨t',m'⟩,h1,r⟩:=Yb H hcf n ops.toList t m (λp=>q (.normal,p.1,p.2)) b ps hq hg;exact⟨(.normal,t',m'),by simp only[AH,cond_true,h1],r⟩
 |seq a b iha ihb=>
  intro t m q x ps hq hg;obtain⟨⟨e,t',m'⟩,h1,ps1,h2,g2⟩:=iha t m (λp=>Ex.rec (motive:=λ_=>Option (TT β)) (codeT H b P K G cf (λbody _ k t m q=>loopF body k t m q) n k p.2.1 p.2.2 λe t m=>q (e,t,m)) (λid=>q (.exit id,p.2.1,p.2.2)) (q (.ret,p.2.1,p.2.2)) p.1) x ps hq hg;simp only[AH,h1];cases e with
  |normal=>exact ihb t' m' q x ps1 h2 g2
  |exit id=>exact⟨_,rfl,ps1,h2,g2⟩
  |ret=>exact⟨_,rfl,ps1,h2,g2⟩
 |cond c x y ihx ihy=>
  intro t m q b ps hq hg;have hq:(evF c G t λv=>Y.asBool v (codeT H x P K G cf (λbody _ k t m q=>loopF body k t m q) n k t m λe t m=>q (e,t,m)) (codeT H y P K G cf (λbody _ k t m q=>loopF body k t m q) n k t m λe t m=>q (e,t,m)))=some (b,ps):=hq;rw[BZ]at hq;simp only[AH];cases he:ev G t c with
  |none=>rw[he]at hq;cases hq
  |some v=>
   rw[he]at hq;cases v<;>try (cases hq;done)
   rename_i w;cases w with
   |true=>exact ihx t m q b ps hq hg
   |false=>exact ihy t m q b ps hq hg
 |block id c ih=>
  intro t m q b ps hq hg;obtain⟨⟨e,t',m'⟩,h1,ps1,h2,g2⟩:=ih t m (λp=>Ex.rec (motive:=λ_=>Option (TT β)) (q (.normal,p.2.1,p.2.2)) (λid'=>Bool.rec (motive:=λ_=>Option (TT β)) (q (.exit id',p.2.1,p.2.2)) (q (.normal,p.2.1,p.2.2)) (Nat.beq id' id)) (q (.ret,p.2.1,p.2.2)) p.1) b ps hq hg;simp only[AH,h1];cases e with
  |normal=>exact⟨_,rfl,ps1,h2,g2⟩
  |ret=>exact⟨_,rfl,ps1,h2,g2⟩
  |exit id'=>
   have h2:Bool.rec (motive:=λ_=>Option (TT β)) (q (.exit id',t',m')) (q (.normal,t',m')) (Nat.beq id' id)=some (b,ps1):=h2;rw[Sd]at h2;by_cases h:id'=id
   ·rw[decide_eq_true h]at h2;exact⟨(.normal,t',m'),by simp only[if_pos h],ps1,h2,g2⟩
   ·rw[decide_eq_false h]at h2;exact⟨(.exit id',t',m'),by simp only[if_neg h],ps1,h2,g2⟩
 |loop c ih=>
  intro t m q b ps hq hg;exact Qe (λt m=>ih t m) k t m q b ps hq hg
def runT(H:Hint)(P:Program)(K:TypeId->Bool)(G:Nat)(k:Nat)(cf:CF (TT β))(fn:Func)(c:Code)(args:List Value)(m:Mem)(q:Value->Mem->Option (TT β)):Option (TT β):=
 Yc args 0 λt=>codeT H c P K G cf (λbody _ k t m q=>loopF body k t m q) (max args.length fn.ntmps) k t m λe t' m'=>Ex.rec (motive:=λ_=>Option (TT β)) (MS fn.results.toList P t' m' λvs=>q (FT vs) m') (λ_=>none) (MS fn.results.toList P t' m' λvs=>q (FT vs) m') e
def callT(H:Hint)(P:Program)(K:TypeId->Bool)(G:Nat)(k:Nat):CF (TT β):=
 Nat.rec (motive:=λ_=>CF (TT β)) (λ_ _ _ _=>none) (λk ih f args m q=>Option.rec (motive:=λ_=>Option (TT β)) (Option.rec (motive:=λ_=>Option (TT β)) none (λfn=>Option.rec (motive:=λ_=>Option (TT β)) none (λc=>runT H P K G k ih fn c args m q) fn.body) P.funcs[f]?)
  (λv=>Cu (H.says f args m v) (q v (H.eff f m))) (H.call f)) k
theorem call_fac(H:Hint)(P:Program)(K:TypeId->Bool)(G:Nat)(o:DT)(h1:∀f v args m,H.call f=some v->H.says f args m v->o f args m=some (v,H.eff f m))(h2:∀f,H.call f=none->∀a m,o f a m=none):∀(k:Nat) (f:FuncId) (args:List Value) (m:Mem),LC (callT H P K G k f args m:(Value->Mem->Option (TT β))->Option (TT β)) (Bw P K G o k f args m)
 |0,f,args,m=>λq b ps hq=>by cases hq
 |k+1,f,args,m=>λq b ps hq hg=>by
  have ih:∀f args m,LC (callT H P K G k f args m:(Value->Mem->Option (TT β))->Option (TT β)) (Bw P K G o k f args m):=call_fac H P K G o h1 h2 k
  have hq:Option.rec (motive:=λ_=>Option (TT β)) (Option.rec (motive:=λ_=>Option (TT β)) none (λfn=>Option.rec (motive:=λ_=>Option (TT β)) none (λc=>runT H P K G k (callT H P K G k) fn c args m λv m=>q (v,m)) fn.body) P.funcs[f]?)
   (λv=>Cu (H.says f args m v) (q (v,H.eff f m))) (H.call f)=some (b,ps):=hq
  simp only[Bw];cases hc:H.call f with
  |some v=>
   rw[hc]at hq;obtain⟨p1,ps1,p2,g2⟩:=CO hq hg;rw[h1 f v args m hc p1];exact⟨_,rfl,ps1,p2,g2⟩
  |none=>
  rw[hc]at hq;rw[h2 f hc];simp only[MT];cases hf:P.funcs[f]? with
  |none=>rw[hf]at hq;cases hq
  |some fn=>
   rw[hf]at hq;simp only at hq ⊢;cases hb:fn.body with
   |none=>rw[hb]at hq;cases hq
   |some c=>
    rw[hb]at hq;simp only[runT,MU,IC]at hq ⊢;obtain⟨⟨e,t',m'⟩,h1,ps1,h2,g2⟩:=Qf H ih (max args.length fn.ntmps) k c (GF 0 args) m (λp=>Ex.rec (motive:=λ_=>Option (TT β)) (ob (DM P p.2.1 p.2.2 fn.results.toList) λvs=>q (FT vs,p.2.2)) (λ_=>none) (ob (DM P p.2.1 p.2.2 fn.results.toList) λvs=>q (FT vs,p.2.2)) p.1) b ps hq hg;rw[h1];cases e with
    |exit id=>cases h2
    |normal=>
     have h2:(ob (DM P t' m' fn.results.toList) λvs=>q (FT vs,m'))=some (b,ps1):=h2;simp only;cases hr:DM P t' m' fn.results.toList with
     |none=>rw[hr]at h2;cases h2
     |some vs=>rw[hr]at h2;exact⟨_,rfl,ps1,h2,g2⟩
    |ret=>
     have h2:(ob (DM P t' m' fn.results.toList) λvs=>q (FT vs,m'))=some (b,ps1):=h2;simp only;cases hr:DM P t' m' fn.results.toList with
     |none=>rw[hr]at h2;cases h2
     |some vs=>rw[hr]at h2;exact⟨_,rfl,ps1,h2,g2⟩
theorem callO_H{H:Hint}{P:Program}{K:TypeId->Bool}{G:Nat}{o:DT}(h1:∀f v args m,H.call f=some v->H.says f args m v->o f args m=some (v,H.eff f m))(h2:∀f,H.call f=none->∀a m,o f a m=none)
  {k:Nat} {f:FuncId} {args:List Value} {m:Mem} {g:Value->Mem->β} {b:β} {qs:List Prop}
  (hr:(callT H P K G k f args m λv m=>some (g v m,[],[])).map (λx=>(x.1,x.2.2))=some (b,qs))
  (hp:((callT H P K G k f args m λv m=>some (g v m,[],[])).map λx=>x.2.1.map Prod.fst)=((callT H P K G k f args m λv m=>some (g v m,[],[])).map λx=>x.2.1.map Prod.snd)) (hq:∀p∈qs,p):
  ∃v m',Bw P K G o k f args m=some (v,m')/\g v m'=b:=by
 cases hx:callT H P K G k f args m λv m=>some (g v m,[],[])with
 |none=>rw[hx]at hr;cases hr
 |some r=>
  obtain⟨b',ps,qs'⟩:=r;rw[hx]at hr hp;have hr:some (b',qs')=some (b,qs):=hr;simp only[Option.some.injEq,Prod.mk.injEq]at hr;obtain⟨rfl,rfl⟩:=hr;have hp:some (ps.map Prod.fst)=some (ps.map Prod.snd):=hp;obtain⟨⟨v,m'⟩,q1,ps',q2,_⟩:=call_fac H P K G o h1 h2 k f args m (λp=>some (g p.1 p.2,[],[])) b' (ps,qs') hx (good_of (Option.some.inj hp) hq);simp only[Option.some.injEq,Prod.mk.injEq]at q2;exact⟨v,m',q1,q2.1⟩
theorem codeO_H{H:Hint}{P:Program}{K:TypeId->Bool}{G:Nat}{o:DT}(h1:∀f v args m,H.call f=some v->H.says f args m v->o f args m=some (v,H.eff f m))(h2:∀f,H.call f=none->∀a m,o f a m=none)
  {j n k:Nat} {c:Code} {t:AE} {m:Mem} {g:Ex->AE->Mem->β} {b:β} {qs:List Prop}
  (hr:(codeT H c P K G (callT H P K G j) (λbody _ k t m q=>loopF body k t m q) n k t m λe t m=>some (g e t m,[],[])).map (λx=>(x.1,x.2.2))=some (b,qs))
  (hp:((codeT H c P K G (callT H P K G j) (λbody _ k t m q=>loopF body k t m q) n k t m λe t m=>some (g e t m,[],[])).map λx=>x.2.1.map Prod.fst)=((codeT H c P K G (callT H P K G j) (λbody _ k t m q=>loopF body k t m q) n k t m λe t m=>some (g e t m,[],[])).map λx=>x.2.1.map Prod.snd)) (hq:∀p∈qs,p):
  ∃e t' m',AH P K G (Bw P K G o j) (A6 P K G (Bw P K G o j) n) n k c t m=some (e,t',m')/\g e t' m'=b:=by
 cases hx:codeT H c P K G (callT H P K G j) (λbody _ k t m q=>loopF body k t m q) n k t m λe t m=>some (g e t m,[],[])with
 |none=>rw[hx]at hr;cases hr
 |some r=>
  obtain⟨b',ps,qs'⟩:=r;rw[hx]at hr hp;have hr:some (b',qs')=some (b,qs):=hr;simp only[Option.some.injEq,Prod.mk.injEq]at hr;obtain⟨rfl,rfl⟩:=hr;have hp:some (ps.map Prod.fst)=some (ps.map Prod.snd):=hp;obtain⟨⟨e,t',m'⟩,q1,ps',q2,_⟩:=Qf H (call_fac H P K G o h1 h2 j) n k c t m (λp=>some (g p.1 p.2.1 p.2.2,[],[])) b' (ps,qs') hx (good_of (Option.some.inj hp) hq);simp only[Option.some.injEq,Prod.mk.injEq]at q2;exact⟨e,t',m',q1,q2.1⟩
end
end Go.DI.H
namespace Go.Cmp
open Go Go.DI
inductive RV where
 |none
 |num (n:Int)
 |ctx
 |pkt
def By(r:Int->RV)(i:Int)(v:RV):Int->RV:=λj=>if j=i then v else r j
theorem CL(r:Int->RV)(i:Int)(v:RV):By r i v i=v:=if_pos rfl
theorem Eu{r:Int->RV}{i j:Int}{v:RV}(h:j≠i):By r i v j=r j:=if_neg h
def DW(a b:Int):Int:=((a.toNat &&& b.toNat:Nat):Int)
def EY(l:List Int):Int:=l.foldr (λb n=>b+256*n) 0
def Ob(l:List Int):Int:=l.foldl (λn b=>256*n+b) 0
def Oc:Nat->Int->List Int
 |0,_=> []
 |z+1,a=>a % 256::Oc z (a / 256)
def FW(z:Int)(a:Int):Int:=Ob (Oc z.toNat a)
def cut(l:List Int)(at_ z:Nat):List Int:=(l.drop at_).take z
def Cj(op a b:Int):Bool:=if op=3 then decide (b<=a)else if op=5 then decide (a≠b)else if op=10 then decide (a<b)else decide (b<a)
def Pn(z:Int):Prop:=z=1\/z=2\/z=4\/z=8
def iZ(op:Int):Prop:=op=3\/op=5\/op=10\/op=2
def Bu(d:Int):Prop:=0<=d/\d<=9
def rI(d:Int):Prop:=(d=2\/d=3)/\True
def rA(d:Int):Prop:=d=2/\True
def rJ(d:Int):Prop:=(d=2\/d=8)/\True
def rP(a b d s:Int):Prop:=(d=a/\s=b)/\True
def rM(d s:Int):Prop:=(d=6/\s=1\/d=2/\s=8)/\True
def Dz(n:Int):Prop:=0<=n/\n<2147483648
def BE(x:B1)(o:Int):B1:={x with off:=o}
inductive EN(c:List B1)(pk:List Int)(port:Int):Nat->(Int->RV)->Nat->(Int->RV)->Prop
 |movI {p:Nat} {r:Int->RV} {d n:Int}:c[p]?=some (DE 11 d n)->rI d->Dz n->EN c pk port p r (p+1) (By r d (.num n))
 |andI {p:Nat} {r:Int->RV} {d n a:Int}:c[p]?=some (DE 5 d n)->rA d->Dz n->r d= .num a->EN c pk port p r (p+1) (By r d (.num (DW a n)))
 |movR {p:Nat} {r:Int->RV} {d s:Int}:c[p]?=some (Ba 11 d s)->Bu d->rM d s->r s≠ .none->EN c pk port p r (p+1) (By r d (r s))
 |andR {p:Nat} {r:Int->RV} {d s a b:Int}:c[p]?=some (Ba 5 d s)->Bu d->rP 2 3 d s->r d= .num a->r s= .num b->EN c pk port p r (p+1) (By r d (.num (DW a b)))
 |low {p:Nat} {r:Int->RV} {n:Int}:c[p]?=some (G3 n)->EN c pk port p r (p+1) (By r 0 (.num (n % 4294967296)))
 |const {p:Nat} {r:Int->RV} {l h:Int}:c[p]?=some ⟨24,3,0,0,l⟩->c[p+1]?=some ⟨0,0,0,0,h⟩->EN c pk port p r (p+2) (By r 3 (.num (l % 4294967296+4294967296*(h % 4294967296))))
 |ldLen {p:Nat} {r:Int->RV} {d s:Int}:c[p]?=some (BG 4 d s 0)->Bu d->rP 8 6 d s->r s= .ctx->EN c pk port p r (p+1) (By r d (.num pk.length))
 |ldPort {p:Nat} {r:Int->RV} {d s:Int}:c[p]?=some (BG 4 d s 4)->Bu d->rP 2 6 d s->r s= .ctx->EN c pk port p r (p+1) (By r d (.num port))
 |ldPkt {p:Nat} {r:Int->RV} {d s:Int}:c[p]?=some (BG 8 d s 8)->Bu d->rP 7 1 d s->r s= .ctx->EN c pk port p r (p+1) (By r d .pkt)
 |ld {p:Nat} {r:Int->RV} {z d s:Int} {o:Nat}:c[p]?=some (BG z d s o)->Pn z->Bu d->rP 2 7 d s->r s= .pkt->o<=1000->o+z.toNat<=pk.length->EN c pk port p r (p+1) (By r d (.num (EY (cut pk o z.toNat))))
 |swap {p:Nat} {r:Int->RV} {z a:Int}:c[p]?=some (C0 z)->Pn z->1<z->r 2= .num a->0<=a->a<256 ^ z.toNat->EN c pk port p r (p+1) (By r 2 (.num (FW z a)))
 |jif {p q:Nat} {r:Int->RV} {op d n a o:Int}:c[p]?=some (BE (Cw op d n) o)->iZ op->rJ d->Dz n->r d= .num a->(q:Int)=(if Cj op a n=true then(p:Int)+1+o else(p:Int)+1)->p<q->EN c pk port p r q r
 |jifR {p q:Nat} {r:Int->RV} {op a b o:Int}:c[p]?=some (BE (Ec op) o)->op=10\/op=2->r 2= .num a->r 3= .num b->(q:Int)=(if Cj op a b=true then(p:Int)+1+o else(p:Int)+1)->p<q->EN c pk port p r q r
 |goto {p q:Nat} {r:Int->RV} {o:Int}:c[p]?=some (BE Bm o)->(q:Int)=(p:Int)+1+o->p<q->EN c pk port p r q r
inductive I7(c:List B1)(pk:List Int)(port:Int):Nat->Nat->(Int->RV)->Nat->(Int->RV)->Prop
 |nil {p:Nat} {r:Int->RV}:I7 c pk port 0 p r p r
 |cons {n p p' q:Nat} {r r' s:Int->RV}:EN c pk port p r p' r'->I7 c pk port n p' r' q s->I7 c pk port (n+1) p r q s
variable{c:List B1}{pk:List Int}{port:Int}
theorem EN.lt{p q:Nat}{r s:Int->RV}(h:EN c pk port p r q s):p<q:=by
 cases h<;>omega
theorem I7.le{n p q:Nat}{r s:Int->RV}(h:I7 c pk port n p r q s):p+n<=q:=by
 induction h with
 |nil=>omega
 |cons h _ ih=>have:=h.lt;omega
theorem I7.trans{n m p q t:Nat}{r s u:Int->RV}(h:I7 c pk port n p r q s)(k:I7 c pk port m q s t u):I7 c pk port (m+n) p r t u:=by
 induction h with
 |nil=>exact k
 |cons h _ ih=>exact .cons h (ih k)
def AJ(l:List A9):List Nat:=(l.filter BY).map (·.here)
theorem BJ(a b:List A9):AJ (a++b)=AJ a++AJ b:=by simp[AJ]
theorem Co(x:B1)(to:Nat)(l:List A9):AJ (ins x to::l)=AJ l:=by simp[AJ,BY,ins]
theorem DX(n:Nat)(l:List A9):AJ (lab (n+1)::l)=(n+1)::AJ l:=by simp[AJ,BY,lab]
theorem Jy:∀(l:List A9) (n:Nat) (f:Nat->Nat) (j:Nat),j∉AJ l->Gm l n f j=f j
 | [],_,_,_,_=>rfl
 |r::l,n,f,j,h=>by
  simp only[Gm];by_cases hr:BY r=true
  ·rw[if_pos hr];have h1:j∉AJ l:=λhj=>h (by simp only[AJ,List.filter_cons,hr,if_true,List.map_cons];exact List.mem_cons_of_mem _ hj);have h2:j≠r.here:=λe=>h (by simp only[AJ,List.filter_cons,hr,if_true,List.map_cons];rw[e];exact List.mem_cons_self ..);rw[Jy l n _ j h1];exact if_neg h2
  ·rw[if_neg hr];have h1:j∉AJ l:=λhj=>h (by simp only[AJ,List.filter_cons,hr,if_false];exact hj);exact Jy l (n+1) f j h1
theorem Od:∀(a b:List A9) (n:Nat) (f:Nat->Nat) (j:Nat),j+1∉AJ b->Gm (a++lab (j+1)::b) n f (j+1)=n+BU a
 | [],b,n,f,j,h=>by
  have hr:BY (lab (j+1))=true:=by simp[BY,lab]
  simp only[List.nil_append,Gm];rw[if_pos hr,Jy b n _ (j+1) h];simp[lab,BU]
 |r::a,b,n,f,j,h=>by
  simp only[List.cons_append,Gm,BU];by_cases hr:BY r=true
  ·rw[if_pos hr,if_pos hr];exact Od a b n _ j h
  ·rw[if_neg hr,if_neg hr,Od a b (n+1) f j h];omega
theorem Xc(a b:List A9)(j:Nat)(h:j+1∉AJ b):JM (a++lab (j+1)::b) (j+1)=BU a:=by
 unfold JM;rw[Od a b 0 _ j h];omega
theorem EA(pre suf:List A9)(x:B1)(to:Nat):(B6 (pre++ins x to::suf))[BU pre]?=some (if 0<to then SD (JM (pre++ins x to::suf) to) (BU pre) x else x):=by
 have hr:¬BY (ins x to)=true:=by simp[BY,ins]
 obtain⟨f,hf⟩:∃f:Nat->Option Nat,(λj=>some (JM (pre++ins x to::suf) j))=f:=⟨_,rfl⟩
 have e:B6 (pre++ins x to::suf)=C1 f pre 0++C1 f (ins x to::suf) (0+BU pre):=by
  rw[←Dn,←hf];rfl
 rw[e,List.getElem?_append_right (by rw[Bo];exact Nat.le_refl _),Bo,Nat.sub_self]
 simp only[C1]
 rw[if_neg hr,List.getElem?_cons_zero,Nat.zero_add,←hf]
 by_cases ht:0<to
 ·show some (match(if 0<to then some (JM (pre++ins x to::suf) to)else Option.none)with|some q=>SD q (BU pre) x|Option.none=>x)=_;rw[if_pos ht,if_pos ht]
 ·show some (match(if 0<to then some (JM (pre++ins x to::suf) to)else Option.none)with|some q=>SD q (BU pre) x|Option.none=>x)=_;rw[if_neg ht,if_neg ht]
def Rn(rows:List A9)(pk:List Int)(port:Int)(suf:List A9)(r:Int->RV)(suf':List A9)(r':Int->RV):Prop:=
 ∀pre,rows=pre++suf->∃pre' n,rows=pre'++suf'/\I7 (B6 rows) pk port n (BU pre) r (BU pre') r'
section
variable{rows suf suf' suf'':List A9}{r r' r'':Int->RV}
theorem Rn.refl:Rn rows pk port suf r suf r:=λpre h=>⟨pre,0,h, .nil⟩
theorem Rn.trans(h:Rn rows pk port suf r suf' r')(k:Rn rows pk port suf' r' suf'' r''):Rn rows pk port suf r suf'' r'':=λpre hp=>by
 obtain⟨p1,n1,e1,h1⟩:=h pre hp
 obtain⟨p2,n2,e2,h2⟩:=k p1 e1
 exact⟨p2,_,e2,h1.trans h2⟩
theorem Rn.lab(l:Nat):Rn rows pk port (lab (l+1)::suf) r suf r:=λpre hp=>by
 refine⟨pre++ [Go.Cmp.lab (l+1)],0,by rw[hp];simp,?_⟩
 have:BU (pre++ [Go.Cmp.lab (l+1)])=BU pre:=by rw[Bb];simp[BU,BY,Go.Cmp.lab]
 rw[this];exact .nil
theorem Rn.one{x:B1}(h:∀p,(B6 rows)[p]?=some x->EN (B6 rows) pk port p r (p+1) r'):Rn rows pk port (ins x 0::suf) r suf r':=λpre hp=>by
 refine⟨pre++ [ins x 0],1,by rw[hp];simp,?_⟩
 have e:BU (pre++ [ins x 0])=BU pre+1:=by rw[Bb];simp[BU,BY,ins]
 have hx:=EA pre suf x 0
 rw[if_neg (Nat.lt_irrefl 0),←hp]at hx
 rw[e]
 exact .cons (h _ hx) .nil
theorem Oe{pre mid:List A9}{x:B1}{l:Nat} (hp:rows=pre++(ins x (l+1)::(mid++lab (l+1)::suf'))) (hl:l+1∉AJ suf') (hb:BU rows<=20000):
  ∃o:Int,(B6 rows)[BU pre]?=some (BE x o)/\((BU (pre++ins x (l+1)::mid):Nat):Int)=(BU pre:Int)+1+o/\BU pre<BU (pre++ins x (l+1)::mid)/\rows=(pre++ins x (l+1)::mid)++lab (l+1)::suf':=by
 have e0:rows=(pre++ins x (l+1)::mid)++lab (l+1)::suf':=by rw[hp];simp
 have hx:=EA pre (mid++lab (l+1)::suf') x (l+1)
 rw[if_pos (Nat.succ_pos l),←hp]at hx
 have ha:JM rows (l+1)=BU (pre++ins x (l+1)::mid):=by
  rw[e0];exact Xc _ _ _ hl
 have hc:BU (pre++ins x (l+1)::mid)=BU pre+(BU mid+1):=by rw[Bb];simp[BU,BY,ins]
 have hle:BU (pre++ins x (l+1)::mid)<=BU rows:=by
  rw[e0,Bb (pre++ins x (l+1)::mid)];omega
 refine⟨_,hx,?_,by omega,e0⟩
 rw[ha,hc]
 rw[hc]at hle
 have hw:GZ (((BU pre+(BU mid+1):Nat):Int) - (BU pre:Nat) - 1)=((BU pre+(BU mid+1):Nat):Int) - (BU pre:Nat) - 1:=by
  exact IntWalk.i16_in _ (by omega)
 show _=(BU pre:Int)+1+GZ _
 rw[hw];omega
end
end Go.Cmp
namespace Go.Proofs.YtgjflcgmieiafaaDoor
open Go Go.DI Go.DI.Kit Go.Proofs Go.Cmp
noncomputable section
def nw:List Value:= [.int .u8 0, .int .u8 0, .int .u8 0, .int .u8 0, .int .u8 0, .int .u8 0, .int .u8 0, .int .u8 0, .int .u8 0, .int .u8 0, .int .i64 0, .int .u64 0, .int .i64 0]
def Zi:List Value:=F5 nw 64
def N0(k n:Int):List Value:= [.int .u8 k, .int .i64 0, .int .u64 n, .int .i64 0]
def AI(k0 n0 k1 n1 k2 n2 k3 n3 k4 n4 k5 n5 k6 n6 k7 n7 k8 n8 k9 n9:Int):List Value:=
 N0 k0 n0++(N0 k1 n1++(N0 k2 n2++(N0 k3 n3++(N0 k4 n4++(N0 k5 n5++(N0 k6 n6++(N0 k7 n7++(N0 k8 n8++(N0 k9 n9++ [.int .u8 4, .int .i64 0, .int .u64 0, .int .i64 512])))))))))
def nx(maps code tabs pkt tm ch:Value)(port:Int)(regs:List Value)(at_ steps:Int)(over:Bool)(trap:Int):List Value:=
 [maps,code,tabs,pkt, .int .u32 port,tm,ch]++(regs++(Zi++ [.int .i64 at_, .int .i64 steps, .bool over, .int .i64 trap]))
def gU(i:Nat):Value:= .slice (some ⟨i,0,none⟩) 0 0
def eU(cs pv:Value)(port:Int)(regs:List Value)(at_ steps:Int)(over:Bool)(trap:Int):BI:=
 .cells true (nx (gU 5) cs (gU 4) pv (gU 6) (gU 7) port regs at_ steps over trap)
def AM(n:Nat):Value:= .slice (some ⟨2,0,some 5⟩) n n
def Fv:BI:= .cells true []
def eV(L P:List Value)(cs pv:Value)(port:Int)(regs:List Value)(at_ steps:Int)(over:Bool)(trap:Int):List BI:= [eU cs pv port regs at_ steps over trap, .cells true L, .cells true P,Fv,Fv,Fv,Fv]
def mV(L P:List Value)(cs pv:Value)(port:Int)(regs:List Value)(at_ steps:Int)(over:Bool)(trap:Int):Mem:=mS gl (eV L P cs pv port regs at_ steps over trap)
abbrev Seen:=Value×BI×BI×BI×BI×BI×BI×BI×BI
def RW(v:Value)(m:Mem):Seen:=(v,m.get 0,m.get 1,m.get 2,m.get 3,m.get 4,m.get 5,m.get 6,m.get 7)
def Jk(args:List Value)(b:Bool):Prop:=match args with
 | [.int .i64 op, .bool true, .int .u64 x, .int .u64 y]=>(op=3\/op=5\/op=10\/op=2)/\b=Cj op x y
 |_=>False
def AQ(pk:List Int):List Value:=pk.map λb=> .int .u8 b
structure I2(x:BI)(n:Nat)(off z:Int)(pk:List Int):Prop where
 blk:∃own,x= .cells own (AQ pk)
 rng:∀b∈pk,0<=b/\b<256
 len:n=pk.length
 sz:Pn z
 off0:0<=off
 fits:off+z<=pk.length
 small:pk.length<=1000000
def RX(args:List Value)(x:BI)(N:Int):Prop:=match args with
 | [.slice (some ⟨_,0,_⟩) n _, .int .i64 off, .int .i64 z]=>∃pk,I2 x n off z pk/\N=EY (cut pk off.toNat z.toNat)
 |_=>False
def eW(args:List Value):Option Nat:=match args with
 | .slice (some ⟨b,0,_⟩) _ _::_=>some b
 |_=>none
def DD(f:FuncId)(args:List Value)(x:BI)(v:Value):Prop:=
 (f=71/\∃b,v= .tuple ⟨[.bool b, .int .i64 0]⟩/\Jk args b)\/(f=64/\eW args=some 3/\∃N,v= .tuple ⟨[.int .u64 N, .int .i64 0]⟩/\RX args x N)
def hV(x:List Value)(imm2:Int)(b:Bool)(N:Int):H.Hint where
 ix t:=Nat.beq t 30
 ld k t _:=cond (Nat.beq k 2) (cond (Nat.beq t 88) (some (.agg ⟨x⟩)) (cond (Nat.beq t 21) (some (.int .i32 imm2)) none)) none
 cmp _ _:=none
 ap _:=none
 call f:=cond (Nat.beq f 71) (some (.tuple ⟨[.bool b, .int .i64 0]⟩)) (cond (Nat.beq f 64) (some (.tuple ⟨[.int .u64 N, .int .i64 0]⟩)) none)
 spec:=DD
 blk:=3
def sK(f:FuncId)(args:List Value)(h:H.Hint)(M:Mem):Option (H.TT Seen):=H.callT h Tryd.prog kp 1 20 f args M λv m=>some (RW v m,[],[])
def BA(x:List Value)(imm2:Int)(b:Bool)(N:Int)(M:Mem):Option (H.TT Seen):=sK 21 [.pointer (some ⟨1,0,none⟩)] (hV x imm2 b N) M
def Cm(r:Option (H.TT Seen)):Option (Seen×List Prop):=r.map λx=>(x.1,x.2.2)
def BC(r:Option (H.TT Seen)):Prop:=(r.map λx=>x.2.1.map Prod.fst)=(r.map λx=>x.2.1.map Prod.snd)
def seenV(v:Value)(L P:List Value)(cs pv:Value)(port:Int)(regs:List Value)(at_ steps:Int)(over:Bool)(trap:Int):Seen:=
 (v, .cells false gl,eU cs pv port regs at_ steps over trap, .cells true L, .cells true P,Fv,Fv,Fv,Fv)
def C7(n:Int):Int:=IntKind.wrap .i64 (Int.add n 1)
def Fw(at_:Int)(n:Nat):Prop:=0<=at_/\at_< (n:Int)
def GB(L:List Value)(at_:Int)(x:List Value):Prop:=H.ldOk (.cells true L) (Nat.add 0 (Nat.mul at_.toNat 5)) true 5 (.agg ⟨x⟩)
def Ed(n:Int):Int:=IntKind.wrap .u64 (IntKind.wrap .i64 n)
def Rl(o:Int):Int:=IntKind.wrap .i64 (Int.add 0 (IntKind.wrap .i64 (GZ o)))
def LJ(x y:Int):Int:=IntKind.wrap .u64 (BitVec.ofInt (IntKind.bits .u64) x &&& BitVec.ofInt (IntKind.bits .u64) y).toNat
def eu(x y:Int):Int:=IntKind.wrap .u64 (BitVec.ofInt (IntKind.bits .u64) x|||BitVec.ofInt (IntKind.bits .u64) y).toNat
def Kd(x:Int)(s:Int):Int:=x.fdiv (2 ^ (min s.toNat (IntKind.bits .u64)))
def NJ(x:Int)(s:Int):Int:=IntKind.wrap .u64 (x*2 ^ (min s.toNat (IntKind.bits .u64)))
def XW(a m s:Int):Int:=eu (LJ (Kd a s) m) (NJ (LJ a m) s)
def Na(a:Int):Int:=(λb=>eu (Kd b 32) (NJ b 32)) (XW (XW a 71777214294589695 8) 281470681808895 16)
variable{α:Type}
def OY(b:Bool)(M:Mem)(q:Value->Mem->Option α):Option α:=Bool.rec (motive:=λ_=>Option α) (q (.tuple ⟨[.bool false, .int .i64 0]⟩) M) (q (.tuple ⟨[.bool true, .int .i64 0]⟩) M) b
theorem ek(x y:Int)(M:Mem)(q:Value->Mem->Option α):Y.callK Tryd.prog kp 1 20 71 [.int .i64 3, .bool true, .int .u64 x, .int .u64 y] M q=OY (not (Y.ltF x y)) M q:=by kernel_rfl
theorem en(x y:Int)(M:Mem)(q:Value->Mem->Option α):Y.callK Tryd.prog kp 1 20 71 [.int .i64 5, .bool true, .int .u64 x, .int .u64 y] M q=OY (not (Y.eqF x y)) M q:=by kernel_rfl
theorem aC(x y:Int)(M:Mem)(q:Value->Mem->Option α):Y.callK Tryd.prog kp 1 20 71 [.int .i64 10, .bool true, .int .u64 x, .int .u64 y] M q=OY (Y.ltF x y) M q:=by kernel_rfl
theorem ep(x y:Int)(M:Mem)(q:Value->Mem->Option α):Y.callK Tryd.prog kp 1 20 71 [.int .i64 2, .bool true, .int .u64 x, .int .u64 y] M q=OY (Y.ltF y x) M q:=by kernel_rfl
def hW:H.Hint where
 ix _:=false
 ld _ _ _:=none
 cmp op t:=cond (Nat.beq t 2) (BinOp.rec (motive:=λ_=>Option Bool) none none none none none none none none none none none none none (some false) none (some false) none op) none
 ap _:=none
 call _:=none
 spec _ _ _ _:=False
 blk:=0
theorem aD(b:Nat)(sp:Option Nat)(n c:Nat)(off:Int)(M:Mem)(z:Int)(hz:z=1\/z=2\/z=4\/z=8):
  (H.callT hW Tryd.prog kp 1 20 85 [.slice (some ⟨b,0,sp⟩) n c, .int .i64 off, .int .i64 z] M λv m=>some ((v,m),[],[]))=
   some ((.int .i64 0,M),[],[CC Tryd.prog kp .lss 2 (.int .i64 off) (.int .i64 0)=some (.bool false),CC Tryd.prog kp .gtr 2 (.int .i64 off) (.int .i64 (IntKind.wrap .i64 (Int.sub (Int.ofNat n) z)))=some (.bool false)]):=by
 rcases hz with rfl|rfl|rfl|rfl<;>kernel_rfl
def hG(g:Nat->Int):H.Hint where
 ix t:=Nat.beq t 41
 ld _ t off:=cond (Nat.beq t 5) (some (.int .u8 (g off))) none
 cmp _ _:=none
 ap _:=none
 call f:=cond (Nat.beq f 85) (some (.int .i64 0)) none
 spec f args _ v:=f=85/\v= .int .i64 0/\∃b sp n c off z,args= [.slice (some ⟨b,0,sp⟩) n c, .int .i64 off, .int .i64 z]/\Pn z/\0<=off/\off+z<=n/\n<=1000000
 blk:=0
def pZ(off:Int)(j:Nat):Int:=IntKind.wrap .i64 (Int.add off (Int.ofNat j))
def oZ(off:Int)(j:Nat):Nat:=Nat.add 0 (Nat.mul (pZ off j).toNat 1)
def nG(g:Nat->Int)(off:Int)(a:Int)(j:Nat):Int:=eu (NJ a 8) (IntKind.wrap .u64 (g (oZ off j)))
def pG(M:Mem)(b n:Nat)(g:Nat->Int)(off:Int)(j:Nat):List Prop:= [0<=pZ off j/\pZ off j< (n:Int),H.ldOk (M.get b) (oZ off j) false 1 (.int .u8 (g (oZ off j)))]
def o5(M:Mem)(b:Nat)(sp:Option Nat)(n c:Nat)(g:Nat->Int)(off z:Int):Prop:=(hG g).spec 85 [.slice (some ⟨b,0,sp⟩) n c, .int .i64 off, .int .i64 z] (M.get 0) (.int .i64 0)
def Rg(g:Nat->Int)(b:Nat)(sp:Option Nat)(n c:Nat)(off:Int)(z:Int)(M:Mem):Option (H.TT (Value×Mem)):=H.callT (hG g) Tryd.prog kp 1 20 64 [.slice (some ⟨b,0,sp⟩) n c, .int .i64 off, .int .i64 z] M λv m=>some ((v,m),[],[])
theorem lK(g:Nat->Int)(b:Nat)(sp:Option Nat)(n c:Nat)(off:Int)(M:Mem):
  Rg g b sp n c off 1 M=some ((.tuple ⟨[.int .u64 (nG g off 0 0), .int .i64 0]⟩,M),[],o5 M b sp n c g off 1::pG M b n g off 0):=by kernel_rfl
theorem lL(g:Nat->Int)(b:Nat)(sp:Option Nat)(n c:Nat)(off:Int)(M:Mem):
  Rg g b sp n c off 2 M=some ((.tuple ⟨[.int .u64 (nG g off (nG g off 0 1) 0), .int .i64 0]⟩,M),[],o5 M b sp n c g off 2::(pG M b n g off 1++pG M b n g off 0)):=by kernel_rfl
theorem lM(g:Nat->Int)(b:Nat)(sp:Option Nat)(n c:Nat)(off:Int)(M:Mem):
  Rg g b sp n c off 4 M=some ((.tuple ⟨[.int .u64 (nG g off (nG g off (nG g off (nG g off 0 3) 2) 1) 0), .int .i64 0]⟩,M),[],o5 M b sp n c g off 4::(pG M b n g off 3++(pG M b n g off 2++(pG M b n g off 1++pG M b n g off 0)))):=by kernel_rfl
theorem lN(g:Nat->Int)(b:Nat)(sp:Option Nat)(n c:Nat)(off:Int)(M:Mem):
  Rg g b sp n c off 8 M=some ((.tuple ⟨[.int .u64 (nG g off (nG g off (nG g off (nG g off (nG g off (nG g off (nG g off (nG g off 0 7) 6) 5) 4) 3) 2) 1) 0), .int .i64 0]⟩,M),[],o5 M b sp n c g off 8::(pG M b n g off 7++(pG M b n g off 6++(pG M b n g off 5++(pG M b n g off 4++(pG M b n g off 3++(pG M b n g off 2++(pG M b n g off 1++pG M b n g off 0)))))))):=by kernel_rfl
end
end Go.Proofs.YtgjflcgmieiafaaDoor
namespace Go.Cmp
open Go Go.DI
variable{pk:List Int}{port:Int}{rows suf suf':List A9}{r:Int->RV}
def C8(r:Int->RV):Prop:=r 6= .ctx/\r 7= .pkt
theorem C8.set{d:Int}{v:RV}(h:C8 r)(h6:d≠6)(h7:d≠7):C8 (By r d v):=⟨by rw[Eu (Ne.symm h6)];exact h.1,by rw[Eu (Ne.symm h7)];exact h.2⟩
theorem UA{d n:Int}(hd:rI d)(hn:Dz n):Rn rows pk port (ins (DE 11 d n) 0::suf) r suf (By r d (.num n)):=Rn.one λ_ h=> .movI h hd hn
theorem UB{d n a:Int}(hd:rA d)(hn:Dz n)(ha:r d= .num a):Rn rows pk port (ins (DE 5 d n) 0::suf) r suf (By r d (.num (DW a n))):=Rn.one λ_ h=> .andI h hd hn ha
theorem UC{d s:Int}(hd:Bu d)(hs:rM d s)(h:r s≠ .none):Rn rows pk port (ins (Ba 11 d s) 0::suf) r suf (By r d (r s)):=Rn.one λ_ hc=> .movR hc hd hs h
theorem bw{d s a b:Int}(hd:Bu d)(hs:rP 2 3 d s)(ha:r d= .num a)(hb:r s= .num b):Rn rows pk port (ins (Ba 5 d s) 0::suf) r suf (By r d (.num (DW a b))):=Rn.one λ_ hc=> .andR hc hd hs ha hb
theorem ie{n:Int}:Rn rows pk port (ins (G3 n) 0::suf) r suf (By r 0 (.num (n % 4294967296))):=Rn.one λ_ hc=> .low hc
theorem ig{d s:Int}(hd:Bu d)(hs:rP 8 6 d s)(h:r s= .ctx):Rn rows pk port (ins (BG 4 d s 0) 0::suf) r suf (By r d (.num pk.length)):=Rn.one λ_ hc=> .ldLen hc hd hs h
theorem bz{d s:Int}(hd:Bu d)(hs:rP 2 6 d s)(h:r s= .ctx):Rn rows pk port (ins (BG 4 d s 4) 0::suf) r suf (By r d (.num port)):=Rn.one λ_ hc=> .ldPort hc hd hs h
theorem ij{d s:Int}(hd:Bu d)(hs:rP 7 1 d s)(h:r s= .ctx):Rn rows pk port (ins (BG 8 d s 8) 0::suf) r suf (By r d .pkt):=Rn.one λ_ hc=> .ldPkt hc hd hs h
theorem Xd{z d s:Int}{o:Nat}(hz:Pn z)(hd:Bu d)(hs:rP 2 7 d s)(h:r s= .pkt)(ho:o<=2000)(hl:o+z.toNat<=pk.length)(ho2:o<=1000):Rn rows pk port (ins (BG z d s o) 0::suf) r suf (By r d (.num (EY (cut pk o z.toNat)))):=Rn.one λ_ hc=> .ld hc hz hd hs h ho2 hl
theorem cA{z a:Int}(hz:Pn z)(h1:1<z)(ha:r 2= .num a)(h0:0<=a)(hl:a<256 ^ z.toNat):Rn rows pk port (ins (C0 z) 0::suf) r suf (By r 2 (.num (FW z a))):=Rn.one λ_ hc=> .swap hc hz h1 ha h0 hl
theorem Of(n:Int):Jq n % 4294967296=n % 4294967296:=by
 unfold Jq
 rw[IntKind.wrap_i32]
 omega
theorem Vi{n:Int}(h:Dz n):Jq n=n:=IntWalk.i32_in _ (by have:=h.1;have:=h.2;omega)
theorem Pw{n:Int}(h0:0<=n)(h1:n<18446744073709551616):Rn rows pk port (ins (Bj n) 0::ins (Cp n) 0::suf) r suf (By r 3 (.num n)):=λpre hp=>by
 have a1:=EA pre (ins (Cp n) 0::suf) (Bj n) 0
 have a2:=EA (pre++ [ins (Bj n) 0]) suf (Cp n) 0
 have e0:pre++ [ins (Bj n) 0]++ins (Cp n) 0::suf=rows:=by rw[hp];simp
 have e1:BU (pre++ [ins (Bj n) 0])=BU pre+1:=by rw[Bb];simp[BU,BY,ins]
 have e2:BU (pre++ [ins (Bj n) 0,ins (Cp n) 0])=BU pre+2:=by rw[Bb];simp[BU,BY,ins]
 rw[if_neg (Nat.lt_irrefl 0),←hp]at a1
 rw[if_neg (Nat.lt_irrefl 0),e0,e1]at a2
 refine⟨pre++ [ins (Bj n) 0,ins (Cp n) 0],1,by rw[hp];simp,?_⟩
 rw[e2]
 have hs:=EN.const (pk:=pk) (port:=port) (r:=r) a1 a2
 rw[Of,Of,show n % 4294967296 % 4294967296+4294967296*(n / 4294967296 % 4294967296)=n by omega]at hs
 exact .cons hs .nil
theorem cB(q n:Nat)(x:B1):SD q n x=BE x (GZ ((q:Int) - n - 1)):=rfl
theorem UD(pre suf:List A9)(x:B1)(l:Nat)(hp:rows=pre++ins x (l+1)::suf):∃o,(B6 rows)[BU pre]?=some (BE x o):=by
 have a1:=EA pre suf x (l+1)
 rw[if_pos (Nat.succ_pos l),←hp]at a1
 exact⟨_,a1⟩
theorem Og{op d n a:Int}{l:Nat}(hop:iZ op)(hd:rJ d)(hn:Dz n)(ha:r d= .num a)(ht:Cj op a n=false):Rn rows pk port (ins (Cw op d n) (l+1)::suf) r suf r:=λpre hp=>by
 obtain⟨o,ho⟩:=UD pre suf _ l hp
 have e:BU (pre++ [ins (Cw op d n) (l+1)])=BU pre+1:=by rw[Bb];simp[BU,BY,ins]
 refine⟨pre++ [ins (Cw op d n) (l+1)],1,by rw[hp];simp,?_⟩
 rw[e]
 exact .cons (.jif ho hop hd hn ha (by rw[ht];simp) (by omega)) .nil
theorem Oh{op d n a:Int}{l:Nat}{mid:List A9}(hb:BU rows<=20000)(hop:iZ op)(hd:rJ d)(hn:Dz n)(ha:r d= .num a)(ht:Cj op a n=true)(hl:l+1∉AJ suf'):Rn rows pk port (ins (Cw op d n) (l+1)::(mid++lab (l+1)::suf')) r suf' r:=λpre hp=>by
 obtain⟨o,h1,h2,h3,h4⟩:=Oe hp hl hb
 obtain⟨p2,n2,e2,r2⟩:=Rn.lab (pk:=pk) (port:=port) (r:=r) l _ h4
 exact⟨p2,_,e2, .cons (.jif h1 hop hd hn ha (by rw[ht,if_pos rfl];exact h2) h3) r2⟩
theorem cC{op a b:Int}{l:Nat}(hop:op=10\/op=2)(ha:r 2= .num a)(hb:r 3= .num b)(ht:Cj op a b=false):Rn rows pk port (ins (Ec op) (l+1)::suf) r suf r:=λpre hp=>by
 obtain⟨o,ho⟩:=UD pre suf _ l hp
 have e:BU (pre++ [ins (Ec op) (l+1)])=BU pre+1:=by rw[Bb];simp[BU,BY,ins]
 refine⟨pre++ [ins (Ec op) (l+1)],1,by rw[hp];simp,?_⟩
 rw[e]
 exact .cons (.jifR ho hop ha hb (by rw[ht];simp) (by omega)) .nil
theorem Xe{op a b:Int}{l:Nat}{mid:List A9}(hbd:BU rows<=20000)(hop:op=10\/op=2)(ha:r 2= .num a)(hb:r 3= .num b)(ht:Cj op a b=true)(hl:l+1∉AJ suf'):Rn rows pk port (ins (Ec op) (l+1)::(mid++lab (l+1)::suf')) r suf' r:=λpre hp=>by
 obtain⟨o,h1,h2,h3,h4⟩:=Oe hp hl hbd
 obtain⟨p2,n2,e2,r2⟩:=Rn.lab (pk:=pk) (port:=port) (r:=r) l _ h4
 exact⟨p2,_,e2, .cons (.jifR h1 hop ha hb (by rw[ht,if_pos rfl];exact h2) h3) r2⟩
theorem JN{l:Nat}{mid:List A9}(hbd:BU rows<=20000)(hl:l+1∉AJ suf'):Rn rows pk port (ins Bm (l+1)::(mid++lab (l+1)::suf')) r suf' r:=λpre hp=>by
 obtain⟨o,h1,h2,h3,h4⟩:=Oe hp hl hbd
 obtain⟨p2,n2,e2,r2⟩:=Rn.lab (pk:=pk) (port:=port) (r:=r) l _ h4
 exact⟨p2,_,e2, .cons (.goto h1 h2 h3) r2⟩
theorem G4(h:C8 r):∃r',Rn rows pk port (AZ++suf) r suf r'/\C8 r'/\r' 2= .num 0/\r' 8= .num pk.length:=by
 refine⟨By (By (By r 2 (.num 0)) 3 (.num 0)) 8 (.num pk.length),?_,((h.set (by decide) (by decide)).set (by decide) (by decide)).set (by decide) (by decide),?_,CL ..⟩
 ·exact((UA (d:=2) (n:=0) ⟨by decide,by decide⟩ ⟨by decide,by decide⟩).trans (UA (d:=3) (n:=0) ⟨by decide,by decide⟩ ⟨by decide,by decide⟩)).trans (ig (d:=8) (s:=6) ⟨by decide,by decide⟩ ⟨by decide,by decide⟩ (by rw[Eu (by decide),Eu (by decide)];exact h.1))
 ·rw[Eu (by decide),Eu (by decide),CL]
theorem Oi{a o:Nat}{n:Int}{mid:List A9}(hbd:BU rows<=20000)(hn:Dz n)(h8:r 8= .num pk.length)(hs:suf=mid++lab (o+1)::suf')(ha:a+1∉AJ suf)(ho:o+1∉AJ suf'):
  Rn rows pk port (C9 (a+1) n (o+1)++suf) r (if n<=pk.length then suf else suf') r:=by
 have hd:rJ 8:=⟨by decide,by decide⟩
 have e:C9 (a+1) n (o+1)++suf=ins (Cw 3 8 n) (a+1)::([ins Bm (o+1)]++lab (a+1)::suf):=by simp[C9,Vi hn]
 rw[e]
 by_cases h:n<=pk.length
 ·rw[if_pos h];exact Oh hbd (.inl rfl) hd hn h8 (by simp[Cj,h]) ha
 ·rw[if_neg h];refine(Og (.inl rfl) hd hn h8 (by simp[Cj];omega)).trans ?_;have e2: [ins Bm (o+1)]++lab (a+1)::suf=ins Bm (o+1)::((lab (a+1)::mid)++lab (o+1)::suf'):=by rw[hs];simp
  rw[e2];exact JN hbd ho
theorem UE{op n a:Int}{o:Nat}{mid:List A9}(hbd:BU rows<=20000)(hop:op=10\/op=2)(h0:0<=n)(h1:n<18446744073709551616)(hR:C8 r)(h2:r 2= .num a)(hs:suf=mid++lab (o+1)::suf')(ho:o+1∉AJ suf'):
  ∃r',Rn rows pk port (D6 op n (o+1)++suf) r (if Cj op a n=true then suf' else suf) r'/\C8 r'/\r' 2= .num a:=by
 have hd:rJ 2:=⟨by decide,by decide⟩
 have hop4:iZ op:=by rcases hop with rfl|rfl<;>simp[iZ]
 by_cases hn:n<2147483648
 ·have e:D6 op n (o+1)++suf=ins (Cw op 2 n) (o+1)::suf:=by simp[D6,hn]
  rw[e];refine⟨r,?_,hR,h2⟩;by_cases ht:Cj op a n=true
  ·rw[if_pos ht,hs];exact Oh hbd hop4 hd ⟨h0,hn⟩ h2 ht ho
  ·rw[if_neg ht];exact Og hop4 hd ⟨h0,hn⟩ h2 (by simpa using ht)
 ·have e:D6 op n (o+1)++suf=ins (Bj n) 0::ins (Cp n) 0::ins (Ec op) (o+1)::suf:=by simp[D6,hn]
  rw[e];have h22:By r 3 (.num n) 2= .num a:=by rw[Eu (by decide)];exact h2
  refine⟨By r 3 (.num n),(Pw h0 h1).trans ?_,hR.set (by decide) (by decide),h22⟩;by_cases ht:Cj op a n=true
  ·rw[if_pos ht,hs];exact Xe hbd hop h22 (CL ..) ht ho
  ·rw[if_neg ht];exact cC hop h22 (CL ..) (by simpa using ht)
end Go.Cmp
namespace Go.Cmp
open Go Go.DI
variable{pk:List Int}{port:Int}{rows suf suf' sO sF X Y:List A9}{r:Int->RV}
def Dp(pk:List Int):Prop:=∀b∈pk,0<=b/\b<256
theorem G5:∀l:List Int,Dp l->0<=EY l/\EY l<256 ^ l.length
 | [],_=>by simp[EY]
 |b::l,h=>by
  have ih:=G5 l λx hx=>h x (by simp[hx]);have hb:=h b (by simp);have e:EY (b::l)=b+256*EY l:=rfl;rw[e,List.length_cons,Int.pow_succ];omega
theorem Le:∀l:List Int,Dp l->Oc l.length (EY l)=l
 | [],_=>rfl
 |b::l,h=>by
  have ih:=Le l λx hx=>h x (by simp[hx]);have hb:=h b (by simp);have e:EY (b::l)=b+256*EY l:=rfl;rw[e,List.length_cons,Oc,show(b+256*EY l) % 256=b by omega,show(b+256*EY l) / 256=EY l by omega,ih]
theorem SE:∀(l:List Int) (n:Int),l.foldl (λn b=>256*n+b) n=n*256 ^ l.length+Ob l
 | [],n=>by simp[Ob]
 |b::l,n=>by
  have h1:=SE l (256*n+b);have h2:=SE l (256*0+b);have e:Ob (b::l)=l.foldl (λn b=>256*n+b) (256*0+b):=rfl;rw[List.foldl_cons,h1,e,h2,List.length_cons,Int.pow_succ]
  have:(256*n+b)*256 ^ l.length=n*(256 ^ l.length*256)+b*256 ^ l.length:=by
   rw[Int.add_mul,Int.mul_comm 256 n,Int.mul_assoc,Int.mul_comm 256]
  rw[this,show(256:Int)*0+b=b by omega];omega
theorem Nj:∀l:List Int,Dp l->0<=Ob l/\Ob l<256 ^ l.length
 | [],_=>by simp[Ob]
 |b::l,h=>by
  have ih:=Nj l λx hx=>h x (by simp[hx]);have hb:=h b (by simp);have e:Ob (b::l)=l.foldl (λn b=>256*n+b) (256*0+b):=rfl
  have hp:(0:Int)<256 ^ l.length:=by
   have:=Int.pow_pos (n:=256) (m:=l.length) (by decide);exact this
  rw[e,SE,List.length_cons,Int.pow_succ,show(256:Int)*0+b=b by omega];have h1:0<=b*256 ^ l.length:=Int.mul_nonneg hb.1 (by omega);have h2:b*256 ^ l.length<=255*256 ^ l.length:=Int.mul_le_mul_of_nonneg_right (by omega) (by omega);omega
theorem cD{at_ z:Nat}(h:at_+z<=pk.length):(cut pk at_ z).length=z:=by
 unfold cut;rw[List.length_take,List.length_drop];omega
theorem iq{at_ z:Nat}(h:Dp pk):Dp (cut pk at_ z):=λb hb=>h b (List.mem_of_mem_drop (List.mem_of_mem_take hb))
def Gn(t:A7)(pk:List Int)(port:Int):Option Int:=
 if t.kind=1 then some pk.length
 else if t.kind=2 then some port
 else
  let a:=if t.kind=3 then t.pos.toNat else 14+4*((pk.getD 14 0) % 16).toNat+t.pos.toNat
  if(t.kind=3\/15<=pk.length)/\a+t.size.toNat<=pk.length then some (DW (Ob (cut pk a t.size.toNat)) t.mask)else none
def D8(t:A7)(pk:List Int)(port:Int):Bool:=
 (match Gn t pk port with|some n=>decide (t.lo<=n/\n<=t.hi)|none=>false) !=t.neg
theorem Fa(a:Nat)(n:Int)(o:Nat):AJ (C9 (a+1) n o)= [a+1]:=by simp[C9,Co,DX];rfl
theorem G6(t:A7)(o d:Nat):∀(m k n:Nat),∀x∈AJ (CR t o d m k n),n<x/\x<=n+2*m
 |0,_,_,x,h=>by simp[CR,AJ]at h
 |m+1,k,n,x,h=>by
  simp only[CR,BJ,Fa,Co,DX,List.mem_append]at h;rcases h with((h|h)|h)|h
  ·simp[AJ]at h
  ·simp at h;omega
  ·simp[AJ]at h;omega
  ·have:=G6 t o d m (k+1) (n+2) x h;omega
theorem UF{t:A7}{o d:Nat}{a:Int}{mid:List A9}(hbd:BU rows<=20000)(hz:Pn t.size)(hp0:0<=t.pos)(hp:t.pos<=255)(ha:a<16)
  (hX:X=lab (d+1)::Y) (hXo:X=mid++lab (o+1)::sO) (hdY:d+1∉AJ Y) (hoO:o+1∉AJ sO):
  ∀(m k n:Nat) (r:Int->RV),(k:Int)<=a->k+m=16->d+1<=n->(∀x∈AJ X,x<=n\/n+2*m<x)->C8 r->r 8= .num pk.length->r 2= .num a->
  ∃r',Rn rows pk port (CR t (o+1) (d+1) m k n++X) r (if 14+4*a.toNat+t.pos.toNat+t.size.toNat<=pk.length then Y else sO) r'/\C8 r'/\(14+4*a.toNat+t.pos.toNat+t.size.toNat<=pk.length->r' 2= .num (EY (cut pk (14+4*a.toNat+t.pos.toNat) t.size.toNat)))
 |0,k,n,r,h1,h2,_,_,_,_,_=>by omega
 |m+1,k,n,r,h1,h2,hdn,hlX,hR,h8,hr2=>by
  have hzb:1<=t.size/\t.size<=8:=by rcases hz with h|h|h|h<;>omega
  have hsk:Dz (k:Int):=⟨by omega,by omega⟩;by_cases hka:(k:Int)=a
  ·
   have ea:a.toNat=k:=by omega
   obtain⟨Z,hZ⟩:∃Z,CR t (o+1) (d+1) m (k+1) (n+2)++X=Z:=⟨_,rfl⟩
   have e:CR t (o+1) (d+1) (m+1) k n++X=ins (Cw 5 2 k) ((if k=15 then o else n)+1)::(C9 (n+1+1) (14+4*(k:Int)+t.pos+t.size) (o+1)++(ins (BG t.size 2 7 ((14+4*k+t.pos.toNat:Nat):Int)) 0::ins Bm (d+1)::lab (n+1)::Z)):=by
    rw[←hZ];have e1:((14+4*k+t.pos.toNat:Nat):Int)=14+4*(k:Int)+t.pos:=by omega
    rw[e1];by_cases hk15:k=15<;>simp[CR,hk15]
   rw[e]
   have hsO:∃mid',ins (BG t.size 2 7 ((14+4*k+t.pos.toNat:Nat):Int)) 0::ins Bm (d+1)::lab (n+1)::Z=mid'++lab (o+1)::sO:=
    ⟨ins (BG t.size 2 7 ((14+4*k+t.pos.toNat:Nat):Int)) 0::ins Bm (d+1)::lab (n+1)::(CR t (o+1) (d+1) m (k+1) (n+2)++mid),by rw[←hZ,hXo];simp⟩
   obtain⟨mid',hmid'⟩:=hsO
   have hlZ:∀x∈AJ Z,n+2<x\/x<=n:=λx hx=>by
    rw[←hZ,BJ]at hx;rcases List.mem_append.1 hx with hx|hx
    ·have:=G6 t (o+1) (d+1) m (k+1) (n+2) x hx;omega
    ·have:=hlX x hx;omega
   have hl1:n+1+1∉AJ (ins (BG t.size 2 7 ((14+4*k+t.pos.toNat:Nat):Int)) 0::ins Bm (d+1)::lab (n+1)::Z):=by
    rw[Co,Co,DX];intro hx;rcases List.mem_cons.1 hx with hx|hx
    ·omega
    ·have:=hlZ _ hx;omega
   have hno:=Og (rows:=rows) (pk:=pk) (port:=port) (op:=5) (d:=2) (n:=(k:Int)) (l:=if k=15 then o else n) (suf:=C9 (n+1+1) (14+4*(k:Int)+t.pos+t.size) (o+1)++(ins (BG t.size 2 7 ((14+4*k+t.pos.toNat:Nat):Int)) 0::ins Bm (d+1)::lab (n+1)::Z)) (.inr (.inl rfl)) ⟨by decide,by decide⟩ hsk hr2 (by simp[Cj,hka]);have htold:=Oi (rows:=rows) (pk:=pk) (port:=port) (r:=r) (a:=n+1) (o:=o) (n:=14+4*(k:Int)+t.pos+t.size) hbd ⟨by omega,by omega⟩ h8 hmid' hl1 hoO
   have e3:(14+4*(k:Int)+t.pos+t.size<=pk.length)=(14+4*a.toNat+t.pos.toNat+t.size.toNat<=pk.length):=by
    apply propext;omega
   by_cases hc:14+4*a.toNat+t.pos.toNat+t.size.toNat<=pk.length
   ·rw[if_pos (by rw[e3];exact hc)]at htold;rw[if_pos hc];refine⟨By r 2 (.num (EY (cut pk (14+4*k+t.pos.toNat) t.size.toNat))),(hno.trans htold).trans ?_,hR.set (by decide) (by decide),λ_=>by rw[CL,ea]⟩;refine(Xd hz ⟨by decide,by decide⟩ ⟨by decide,by decide⟩ hR.2 (by omega) (by omega) (by omega)).trans ?_;have e4:ins Bm (d+1)::lab (n+1)::Z=ins Bm (d+1)::((lab (n+1)::CR t (o+1) (d+1) m (k+1) (n+2))++lab (d+1)::Y):=by rw[←hZ,hX];simp
    rw[e4];exact JN hbd hdY
   ·rw[if_neg (by rw[e3];exact hc)]at htold;rw[if_neg hc];exact⟨r,hno.trans htold,hR,λh=>absurd h hc⟩
  ·
   have hk15:k≠15:=by omega
   obtain⟨r',h3,h4,h5⟩:=UF hbd hz hp0 hp ha hX hXo hdY hoO m (k+1) (n+2) r (by omega) (by omega) (by omega) (λx hx=>by have:=hlX x hx;omega) hR h8 hr2;refine⟨r',Rn.trans ?_ h3,h4,h5⟩
   have e:CR t (o+1) (d+1) (m+1) k n++X=ins (Cw 5 2 k) (n+1)::((C9 (n+2) (14+4*(k:Int)+t.pos+t.size) (o+1)++ [ins (BG t.size 2 7 (14+4*(k:Int)+t.pos)) 0,ins Bm (d+1)])++lab (n+1)::(CR t (o+1) (d+1) m (k+1) (n+2)++X)):=by
    simp[CR,hk15]
   rw[e];refine Oh hbd (.inr (.inl rfl)) ⟨by decide,by decide⟩ hsk hr2 (by simp[Cj];omega) ?_;rw[BJ];intro hx;rcases List.mem_append.1 hx with hx|hx
   ·have:=G6 t (o+1) (d+1) m (k+1) (n+2) _ hx;omega
   ·have:=hlX _ hx;omega
end Go.Cmp
namespace Go.Cmp
open Go Go.DI
variable{pk:List Int}{port:Int}{rows suf sF E:List A9}{r:Int->RV}
structure JO(t:A7):Prop where
 lo0:0<=t.lo
 le:t.lo<=t.hi
 kind:(t.kind=1\/t.kind=2)/\BS t=false/\t.hi<4294967296\/(t.kind=3\/t.kind=4)/\BS t=true/\Pn t.size/\0<=t.pos/\t.pos<=255/\1<=t.mask/\t.mask<=BX t.size/\t.hi<=BX t.size
theorem UG{z:Int}(h:Pn z):BX z+1=256 ^ z.toNat/\BX z<18446744073709551616/\255<=BX z:=by
 rcases h with rfl|rfl|rfl|rfl<;>decide
theorem testW{t:A7}(h:F0 t=true)(h0:0<=t.lo):JO t:=by
 unfold F0 at h
 split at h
 ·cases h
 ·rename_i hle;split at h
  ·rename_i hk;simp only[decide_eq_true_eq]at h;refine⟨h0,by omega, .inl ⟨hk,?_,h.2.2.2⟩⟩;unfold BS;rcases hk with hk|hk<;>simp[hk]
  ·split at h
   ·cases h
   ·rename_i hk hk2;split at h
    ·cases h
    ·rename_i hs;simp only[decide_eq_true_eq]at h;refine⟨h0,by omega, .inr ⟨by omega,?_,by unfold Pn;omega,h.1,h.2.1,h.2.2.1,h.2.2.2.1,h.2.2.2.2⟩⟩;unfold BS;have:t.kind=3\/t.kind=4:=by omega
     rcases this with hk|hk<;>simp[hk]
theorem Xf{z x:Int}(hz:Pn z)(h0:0<=x)(h1:x<256 ^ z.toNat):DW x (BX z)=x:=by
 obtain⟨a,rfl⟩:=Int.eq_ofNat_of_zero_le h0
 unfold DW
 have key:∀n:Nat,(a:Int)< ((2 ^ n:Nat):Int)->(((a:Int).toNat &&& (((2 ^ n - 1:Nat):Int)).toNat:Nat):Int)=(a:Int):=λn hn=>by
  rw[Int.toNat_natCast,Int.toNat_natCast,Nat.and_two_pow_sub_one_eq_mod,Nat.mod_eq_of_lt (by omega)]
 rcases hz with rfl|rfl|rfl|rfl
 ·exact key 8 (by simpa using h1)
 ·exact key 16 (by simpa using h1)
 ·exact key 32 (by simpa using h1)
 ·exact key 64 (by simpa using h1)
theorem iu{a b:Int}(hb:0<=b):0<=DW a b/\DW a b<=b:=by
 unfold DW
 have:=Nat.and_le_right (n:=a.toNat) (m:=b.toNat)
 omega
def GA(t:A7)(pk:List Int)(port:Int):Option Int:=
 if t.kind=1 then some pk.length
 else if t.kind=2 then some port
 else
  let a:=if t.kind=3 then t.pos.toNat else 14+4*((pk.getD 14 0) % 16).toNat+t.pos.toNat
  if(t.kind=3\/15<=pk.length)/\a+t.size.toNat<=pk.length then some (EY (cut pk a t.size.toNat))else none
def Fj(t:A7)(n fail:Nat)(suf:List A9):List A9:=if t.neg=true then lab (n+2)::suf else AZ++ins Bm fail::lab (n+2)::suf
def EO(t:A7)(n fail:Nat)(suf:List A9):List A9:=D9 t++(ED t (n+1)++(endS t (n+1) (n+2) fail++suf))
theorem Jz(t:A7):AJ (D9 t)= []:=by
 unfold D9
 split
 ·rw[BJ];split<;>split<;>(try split)<;>simp[AJ,BY,ins]
 ·rfl
theorem Vj(op n:Int)(o:Nat):AJ (D6 op n o)= []:=by
 unfold D6
 split<;>simp[AJ,BY,ins]
theorem I8(t:A7)(o:Nat):AJ (ED t o)= []:=by
 unfold ED
 rw[BJ]
 split<;>split<;>simp[Vj] <;>rfl
theorem UH(t:A7)(n fail:Nat)(suf:List A9):∃mid,endS t (n+1) (n+2) fail++suf=mid++lab (n+1)::Fj t n fail suf:=by
 unfold endS Fj
 by_cases h:t.neg=true
 ·rw[if_pos h,if_pos h];exact⟨AZ++ [ins Bm fail],by simp⟩
 ·rw[if_neg h,if_neg h];exact⟨[ins Bm (n+2)],by simp⟩
theorem Xg(t:A7)(n fail:Nat)(suf:List A9):∃mid,EO t n fail suf=mid++lab (n+1)::Fj t n fail suf:=by
 obtain⟨mid,h⟩:=UH t n fail suf
 exact⟨D9 t++(ED t (n+1)++mid),by unfold EO;rw[h];simp⟩
theorem Px(t:A7)(n fail:Nat)(suf:List A9):AJ (Fj t n fail suf)=(n+2)::AJ suf:=by
 unfold Fj
 split
 ·rw[DX]
 ·simp[AZ,Co,DX]
theorem Lf(t:A7)(n fail:Nat):AJ (endS t (n+1) (n+2) fail)= [n+1,n+2]:=by
 unfold endS
 split<;>simp[AZ,Co,DX] <;>rfl
theorem Vk(t:A7)(n fail:Nat)(suf:List A9):AJ (EO t n fail suf)=(n+1)::(n+2)::AJ suf:=by
 unfold EO
 rw[BJ,BJ,BJ,Jz,I8,Lf]
 rfl
theorem iw{a:Int}(h:15<=pk.length)(hb:Dp pk):EY (cut pk 14 1)=pk.getD 14 0/\0<=pk.getD 14 0/\pk.getD 14 0<256/\DW (pk.getD 14 0) 15=pk.getD 14 0 % 16:=by
 obtain⟨x,hx⟩:∃x,pk[14]?=some x:=⟨_,List.getElem?_eq_getElem (by omega)⟩
 have e:pk.getD 14 0=x:=by rw[List.getD_eq_getElem?_getD,hx];rfl
 have hd:pk.drop 14=x::pk.drop 15:=by
  have:=List.drop_eq_getElem_cons (l:=pk) (i:=14) (by omega);rw[this];congr 1;have:=List.getElem?_eq_getElem (l:=pk) (i:=14) (by omega);rw[this]at hx;exact Option.some.inj hx
 have hbx:=hb x (List.mem_of_getElem? hx)
 rw[e]
 refine⟨by unfold cut;rw[hd];simp[EY],hbx.1,hbx.2,?_⟩
 obtain⟨a,rfl⟩:=Int.eq_ofNat_of_zero_le hbx.1
 unfold DW
 show(((a:Int).toNat &&& 15:Nat):Int)=_
 rw[Int.toNat_natCast,show(15:Nat)=2 ^ 4 - 1 from rfl,Nat.and_two_pow_sub_one_eq_mod]
 omega
theorem jA{t:A7}{n fail:Nat}(hbd:BU rows<=20000)(hW:JO t)(hb:Dp pk)(hs:∀x∈AJ suf,x<=n\/EU t n<x)(hR:C8 r)(h8:r 8= .num pk.length):
  ∃r',Rn rows pk port (FC t n++EO t n fail suf) r (if(GA t pk port).isSome=true then EO t n fail suf else Fj t n fail suf) r'/\C8 r'/\∀a,GA t pk port=some a->r' 2= .num a:=by
 obtain⟨mid,hmid⟩:=Xg t n fail suf
 have hlO:AJ (Fj t n fail suf)=(n+2)::AJ suf:=Px ..
 have hlT:AJ (EO t n fail suf)=(n+1)::(n+2)::AJ suf:=Vk ..
 have hgt:n+2<=EU t n:=by unfold EU;split<;>(try split)<;>omega
 have hoO:n+1∉AJ (Fj t n fail suf):=by
  rw[hlO];intro hx;rcases List.mem_cons.1 hx with hx|hx
  ·omega
  ·have:=hs _ hx;omega
 rcases hW.kind with⟨hk,_,_⟩|⟨hk,_,hz,hp0,hp1,_,_,_⟩
 ·rcases hk with hk|hk
  ·have e:FC t n= [ins (Ba 11 2 8) 0]:=by unfold FC;rw[if_pos hk]
   have er:GA t pk port=some (pk.length:Int):=by unfold GA;rw[if_pos hk]
   rw[e,er];refine⟨By r 2 (r 8),?_,hR.set (by decide) (by decide),λa ha=>by cases ha;rw[CL,h8]⟩;rw[Option.isSome_some,if_pos rfl];exact UC ⟨by decide,by decide⟩ ⟨by decide,by decide⟩ (by rw[h8];intro h;cases h)
  ·have hk1:¬t.kind=1:=by omega
   have e:FC t n= [ins (BG 4 2 6 4) 0]:=by unfold FC;rw[if_neg hk1,if_pos hk]
   have er:GA t pk port=some port:=by unfold GA;rw[if_neg hk1,if_pos hk]
   rw[e,er];refine⟨By r 2 (.num port),?_,hR.set (by decide) (by decide),λa ha=>by cases ha;rw[CL]⟩;rw[Option.isSome_some,if_pos rfl];exact bz ⟨by decide,by decide⟩ ⟨by decide,by decide⟩ hR.1
 ·have hzb:1<=t.size/\t.size<=8:=by rcases hz with h|h|h|h<;>omega
  have hk1:¬t.kind=1:=by omega
  have hk2:¬t.kind=2:=by omega
  rcases hk with hk|hk
  ·have e:FC t n=C9 (n+2+1) (t.pos+t.size) (n+1)++ [ins (BG t.size 2 7 (t.pos.toNat:Int)) 0]:=by
    unfold FC;rw[if_neg hk1,if_neg hk2,if_pos hk,show(t.pos.toNat:Int)=t.pos by omega]
   have er:GA t pk port=if t.pos.toNat+t.size.toNat<=pk.length then some (EY (cut pk t.pos.toNat t.size.toNat))else none:=by
    unfold GA;rw[if_neg hk1,if_neg hk2];simp[hk]
   have hkn:EU t n=n+3:=by unfold EU;rw[if_neg (by omega),if_pos hk]
   rw[e,List.append_assoc]
   have htold:=Oi (rows:=rows) (pk:=pk) (port:=port) (r:=r) (a:=n+2) (o:=n) (n:=t.pos+t.size) (suf:=ins (BG t.size 2 7 (t.pos.toNat:Int)) 0::EO t n fail suf) (suf':=Fj t n fail suf) (mid:=ins (BG t.size 2 7 (t.pos.toNat:Int)) 0::mid) hbd ⟨by omega,by omega⟩ h8 (by rw[hmid];rfl)
    (by
     rw[Co,hlT];intro hx;rcases List.mem_cons.1 hx with hx|hx;· omega
     rcases List.mem_cons.1 hx with hx|hx;· omega
     have:=hs _ hx;omega) hoO
   have e3:(t.pos+t.size<=pk.length)=(t.pos.toNat+t.size.toNat<=pk.length):=by apply propext;omega
   by_cases hc:t.pos.toNat+t.size.toNat<=pk.length
   ·rw[if_pos (by rw[e3];exact hc)]at htold;rw[er,if_pos hc];refine⟨By r 2 (.num (EY (cut pk t.pos.toNat t.size.toNat))),?_,hR.set (by decide) (by decide),λa ha=>by cases ha;rw[CL]⟩;rw[Option.isSome_some,if_pos rfl];exact htold.trans (Xd hz ⟨by decide,by decide⟩ ⟨by decide,by decide⟩ hR.2 (by omega) hc (by omega))
   ·rw[if_neg (by rw[e3];exact hc)]at htold;rw[er,if_neg hc];exact⟨r,htold,hR,λa ha=>by cases ha⟩
  ·have hk3:¬t.kind=3:=by omega
   have hkn:EU t n=n+36:=by unfold EU;rw[if_neg (by omega),if_neg hk3]
   rw[hkn]at hs;obtain⟨X,hX⟩:∃X,lab (n+2+1)::EO t n fail suf=X:=⟨_,rfl⟩;have hlX:AJ X=(n+3)::(n+1)::(n+2)::AJ suf:=by rw[←hX,DX,hlT]
   have e:FC t n++EO t n fail suf=C9 (n+3+1) 15 (n+1)++(ins (BG 1 2 7 ((14:Nat):Int)) 0::ins (DE 5 2 15) 0::(CR t (n+1) (n+2+1) 16 0 (n+4)++X)):=by
    rw[←hX];unfold FC;rw[if_neg hk1,if_neg hk2,if_neg hk3];simp
   have hXo:X=(lab (n+2+1)::mid)++lab (n+1)::Fj t n fail suf:=by rw[←hX,hmid];rfl
   rw[e]
   have htold:=Oi (rows:=rows) (pk:=pk) (port:=port) (r:=r) (a:=n+3) (o:=n) (n:=15) (suf:=ins (BG 1 2 7 ((14:Nat):Int)) 0::ins (DE 5 2 15) 0::(CR t (n+1) (n+2+1) 16 0 (n+4)++X)) (suf':=Fj t n fail suf) (mid:=ins (BG 1 2 7 ((14:Nat):Int)) 0::ins (DE 5 2 15) 0::(CR t (n+1) (n+2+1) 16 0 (n+4)++(lab (n+2+1)::mid))) hbd ⟨by decide,by decide⟩ h8 (by rw[hXo];simp)
    (by
     rw[Co,Co,BJ,hlX];intro hx;rcases List.mem_append.1 hx with hx|hx
     ·have:=G6 t (n+1) (n+2+1) 16 0 (n+4) _ hx;omega
     ·simp only[List.mem_cons]at hx;rcases hx with hx|hx|hx|hx
      ·omega
      ·omega
      ·omega
      ·have:=hs _ hx;omega) hoO
   by_cases h15:15<=pk.length
   ·obtain⟨b1,b2,b3,b4⟩:=iw (a:=0) h15 hb
    have er:GA t pk port=if 14+4*((pk.getD 14 0) % 16).toNat+t.pos.toNat+t.size.toNat<=pk.length then some (EY (cut pk (14+4*((pk.getD 14 0) % 16).toNat+t.pos.toNat) t.size.toNat))else none:=by
     unfold GA;rw[if_neg hk1,if_neg hk2];simp[hk3,h15]
    rw[if_pos (by omega)]at htold;have hld:=Xd (rows:=rows) (pk:=pk) (port:=port) (r:=r) (z:=1) (d:=2) (s:=7) (o:=14) (suf:=ins (DE 5 2 15) 0::(CR t (n+1) (n+2+1) 16 0 (n+4)++X)) (.inl rfl) ⟨by decide,by decide⟩ ⟨by decide,by decide⟩ hR.2 (by omega) (by show 14+1<=_;omega) (by omega);have e5:EY (cut pk 14 (1:Int).toNat)=pk.getD 14 0:=b1;rw[e5]at hld;have hand:=UB (rows:=rows) (pk:=pk) (port:=port) (r:=By r 2 (.num (pk.getD 14 0))) (d:=2) (n:=15) (a:=pk.getD 14 0) (suf:=CR t (n+1) (n+2+1) 16 0 (n+4)++X) ⟨by decide,by decide⟩ ⟨by decide,by decide⟩ (CL ..);rw[b4]at hand
    have hdY:n+2+1∉AJ (EO t n fail suf):=by
     rw[hlT];simp only[List.mem_cons,not_or];exact⟨by omega,by omega,λhx=>by have:=hs _ hx;omega⟩
    obtain⟨r',p1,p2,p3⟩:=UF (rows:=rows) (pk:=pk) (port:=port) (t:=t) (o:=n) (d:=n+2) (a:=pk.getD 14 0 % 16) (mid:=lab (n+2+1)::mid) (X:=X) (Y:=EO t n fail suf) (sO:=Fj t n fail suf) hbd hz hp0 hp1 (by omega) hX.symm hXo hdY hoO 16 0 (n+4) (By (By r 2 (.num (pk.getD 14 0))) 2 (.num (pk.getD 14 0 % 16))) (by omega) rfl (by omega)
     (λx hx=>by
      rw[hlX]at hx;simp only[List.mem_cons]at hx;rcases hx with hx|hx|hx|hx
      ·omega
      ·omega
      ·omega
      ·have:=hs _ hx;omega)
     ((hR.set (by decide) (by decide)).set (by decide) (by decide)) (by rw[Eu (by decide),Eu (by decide)];exact h8) (CL ..)
    refine⟨r',((htold.trans hld).trans hand).trans ?_,p2,λa ha=>?_⟩
    ·rw[er];by_cases hc:14+4*((pk.getD 14 0) % 16).toNat+t.pos.toNat+t.size.toNat<=pk.length
     ·rw[if_pos hc]at p1 ⊢;exact p1
     ·rw[if_neg hc]at p1 ⊢;exact p1
    ·rw[er]at ha;split at ha
     ·rename_i hc;cases ha;exact p3 hc
     ·cases ha
   ·rw[if_neg (by omega)]at htold
    have er:GA t pk port=none:=by
     unfold GA;rw[if_neg hk1,if_neg hk2];simp[hk3,h15]
    rw[er];exact⟨r,htold,hR,λa ha=>by cases ha⟩
end Go.Cmp
namespace Go.Cmp
open Go Go.DI
variable{pk:List Int}{port:Int}{rows suf sF E:List A9}{r:Int->RV}
theorem cE{t:A7}{l:List Int}(hbT:BS t=true)(hz:Pn t.size)(hm1:1<=t.mask)(hm2:t.mask<=BX t.size)(hl:(l.length:Int)=t.size)(hb:Dp l)(hR:C8 r)(h2:r 2= .num (EY l)):
  ∃r',Rn rows pk port (D9 t++E) r E r'/\C8 r'/\r' 2= .num (DW (Ob l) t.mask):=by
 have hln:l.length=t.size.toNat:=by omega
 have hbd:=Nj l hb
 have hlb:=G5 l hb
 have hfl:=UG hz
 rw[hln]at hbd hlb
 obtain⟨r1,p1,q1,q2⟩:∃r1,Rn rows pk port ((if 1<t.size then [ins (C0 t.size) 0]else [])++((if t.mask=BX t.size then []else if t.mask<2147483648 then [ins (DE 5 2 t.mask) 0]else [ins (Bj t.mask) 0,ins (Cp t.mask) 0,ins (Ba 5 2 3) 0])++E)) r ((if t.mask=BX t.size then []else if t.mask<2147483648 then [ins (DE 5 2 t.mask) 0]else [ins (Bj t.mask) 0,ins (Cp t.mask) 0,ins (Ba 5 2 3) 0])++E) r1/\C8 r1/\r1 2= .num (Ob l):=by
  by_cases h1:1<t.size
  ·rw[if_pos h1]
   have hsw:FW t.size (EY l)=Ob l:=by
    unfold FW;have:=Le l hb;rw[hln]at this;rw[this]
   refine⟨By r 2 (.num (Ob l)),?_,hR.set (by decide) (by decide),CL ..⟩;have:=cA (rows:=rows) (pk:=pk) (port:=port) (r:=r) (z:=t.size) (a:=EY l) (suf:=(if t.mask=BX t.size then []else if t.mask<2147483648 then [ins (DE 5 2 t.mask) 0]else [ins (Bj t.mask) 0,ins (Cp t.mask) 0,ins (Ba 5 2 3) 0])++E) hz h1 h2 hlb.1 hlb.2;rw[hsw]at this;exact this
  ·rw[if_neg h1];have hs1:t.size=1:=by rcases hz with h|h|h|h<;>omega
   have e:EY l=Ob l:=by
    rw[hs1]at hln
    match l,hln with
    | [b],_=>simp[EY,Ob]
   exact⟨r,Rn.refl,hR,by rw[h2,e]⟩
 have e:D9 t++E=(if 1<t.size then [ins (C0 t.size) 0]else [])++((if t.mask=BX t.size then []else if t.mask<2147483648 then [ins (DE 5 2 t.mask) 0]else [ins (Bj t.mask) 0,ins (Cp t.mask) 0,ins (Ba 5 2 3) 0])++E):=by
  unfold D9;rw[if_pos hbT,List.append_assoc]
 rw[e]
 by_cases hf:t.mask=BX t.size
 ·rw[if_pos hf]at p1 ⊢;refine⟨r1,p1,q1,?_⟩;rw[q2,hf,Xf hz hbd.1 hbd.2]
 ·rw[if_neg hf]at p1 ⊢;by_cases hs:t.mask<2147483648
  ·rw[if_pos hs]at p1 ⊢;exact⟨By r1 2 (.num (DW (Ob l) t.mask)),p1.trans (UB ⟨by decide,by decide⟩ ⟨by omega,hs⟩ q2),q1.set (by decide) (by decide),CL ..⟩
  ·rw[if_neg hs]at p1 ⊢;have h32:By r1 3 (.num t.mask) 2= .num (Ob l):=by rw[Eu (by decide)];exact q2
   exact⟨_,(p1.trans (Pw (by omega) (by omega))).trans (bw (d:=2) (s:=3) ⟨by decide,by decide⟩ ⟨by decide,by decide⟩ h32 (CL ..)),(q1.set (by decide) (by decide)).set (by decide) (by decide),CL ..⟩
theorem Xh{t:A7}{n:Nat}{a:Int}{mid sO:List A9}(hbd:BU rows<=20000)(hlo:0<=t.lo)(hlo2:t.lo<18446744073709551616)(hhi:0<=t.hi)(hhi2:t.hi<18446744073709551616)(ha:0<=a)(haf:BS t=true->a<=BX t.size)(hE:E=mid++lab (n+1)::sO)(ho:n+1∉AJ sO)(hR:C8 r)(h2:r 2= .num a):
  ∃r',Rn rows pk port (ED t (n+1)++E) r (if t.lo<=a/\a<=t.hi then E else sO) r'/\C8 r':=by
 obtain⟨H,hH⟩:∃H,(if BS t=false\/t.hi≠BX t.size then D6 2 t.hi (n+1)else [])=H:=⟨_,rfl⟩
 have e:ED t (n+1)++E=(if 0<t.lo then D6 10 t.lo (n+1)else [])++(H++E):=by
  unfold ED;rw[hH,List.append_assoc]
 rw[e]
 have high:∀r1:Int->RV,C8 r1->r1 2= .num a->∃r',Rn rows pk port (H++E) r1 (if a<=t.hi then E else sO) r'/\C8 r':=by
  intro r1 hR1 h21;by_cases hc:BS t=false\/t.hi≠BX t.size
  ·rw[if_pos hc]at hH;subst hH;obtain⟨r',p1,p2,_⟩:=UE (rows:=rows) (pk:=pk) (port:=port) (op:=2) (n:=t.hi) (o:=n) hbd (.inr rfl) hhi hhi2 hR1 h21 hE ho;refine⟨r',?_,p2⟩;by_cases h:a<=t.hi
   ·rw[if_pos h];rw[if_neg (by simp[Cj];omega)]at p1;exact p1
   ·rw[if_neg h];rw[if_pos (by simp[Cj];omega)]at p1;exact p1
  ·rw[if_neg hc]at hH;subst hH
   have hc':BS t=true/\t.hi=BX t.size:=by
    cases hbb:BS t with
    |false=>exact absurd (.inl hbb) hc
    |true=>exact⟨rfl,Classical.byContradiction λh=>hc (.inr h)⟩
   refine⟨r1,?_,hR1⟩;rw[if_pos (by rw[hc'.2];exact haf hc'.1)];exact Rn.refl
 by_cases h0:0<t.lo
 ·rw[if_pos h0];obtain⟨r1,p1,q1,q2⟩:=UE (rows:=rows) (pk:=pk) (port:=port) (op:=10) (n:=t.lo) (o:=n) (suf:=H++E) (mid:=H++mid) hbd (.inl rfl) hlo hlo2 hR h2 (by rw[hE];simp) ho;by_cases hl:t.lo<=a
  ·rw[if_neg (by simp[Cj];omega)]at p1;obtain⟨r',p2,q3⟩:=high r1 q1 q2;refine⟨r',p1.trans ?_,q3⟩;by_cases h:a<=t.hi
   ·rw[if_pos ⟨hl,h⟩];rw[if_pos h]at p2;exact p2
   ·rw[if_neg (by omega)];rw[if_neg h]at p2;exact p2
  ·rw[if_pos (by simp[Cj];omega)]at p1;refine⟨r1,?_,q1⟩;rw[if_neg (by omega)];exact p1
 ·rw[if_neg h0];obtain⟨r',p2,q3⟩:=high r hR h2;refine⟨r',?_,q3⟩;by_cases h:a<=t.hi
  ·rw[if_pos ⟨by omega,h⟩];rw[if_pos h]at p2;exact p2
  ·rw[if_neg (by omega)];rw[if_neg h]at p2;exact p2
theorem jB{t:A7}{n f:Nat}{mid:List A9}(hbd:BU rows<=20000)(hs:suf=mid++lab (f+1)::sF)(hf:f+1∉AJ sF)(hg:n+2∉AJ suf)(hR:C8 r):
  ∃r',Rn rows pk port (endS t (n+1) (n+2) (f+1)++suf) r (if t.neg=true then sF else suf) r'/\C8 r':=by
 unfold endS
 by_cases h:t.neg=true
 ·rw[if_pos h,if_pos h];obtain⟨r1,p1,q1,_⟩:=G4 (rows:=rows) (pk:=pk) (port:=port) (r:=r) (suf:=ins Bm (f+1)::lab (n+1)::lab (n+2)::suf) hR;refine⟨r1,?_,q1⟩;have e:AZ++ [ins Bm (f+1),lab (n+1),lab (n+2)]++suf=AZ++(ins Bm (f+1)::lab (n+1)::lab (n+2)::suf):=by simp
  rw[e];refine p1.trans ?_;have e2:ins Bm (f+1)::lab (n+1)::lab (n+2)::suf=ins Bm (f+1)::((lab (n+1)::lab (n+2)::mid)++lab (f+1)::sF):=by rw[hs];simp
  rw[e2];exact JN hbd hf
 ·rw[if_neg h,if_neg h];refine⟨r,?_,hR⟩;have e: [ins Bm (n+2),lab (n+1)]++AZ++ [ins Bm (f+1),lab (n+2)]++suf=ins Bm (n+1+1)::(([lab (n+1)]++AZ++ [ins Bm (f+1)])++lab (n+1+1)::suf):=by simp
  rw[e];exact JN hbd hg
theorem Xi{t:A7}{n f:Nat}{mid:List A9}(hbd:BU rows<=20000)(hs:suf=mid++lab (f+1)::sF)(hf:f+1∉AJ sF)(hR:C8 r):
  ∃r',Rn rows pk port (Fj t n (f+1) suf) r (if t.neg=true then suf else sF) r'/\C8 r':=by
 unfold Fj
 by_cases h:t.neg=true
 ·rw[if_pos h,if_pos h];exact⟨r,Rn.lab (n+1),hR⟩
 ·rw[if_neg h,if_neg h];obtain⟨r1,p1,q1,_⟩:=G4 (rows:=rows) (pk:=pk) (port:=port) (r:=r) (suf:=ins Bm (f+1)::lab (n+2)::suf) hR;refine⟨r1,p1.trans ?_,q1⟩;have e2:ins Bm (f+1)::lab (n+2)::suf=ins Bm (f+1)::((lab (n+2)::mid)++lab (f+1)::sF):=by rw[hs];simp
  rw[e2];exact JN hbd hf
theorem cF{t:A7}{n f:Nat}{mid:List A9}(hbd:BU rows<=20000)(hW:JO t)(hb:Dp pk)(hport:0<=port)(hs:suf=mid++lab (f+1)::sF)(hf:f+1∉AJ sF)(hl:∀x∈AJ suf,x<=n\/EU t n<x)(hR:C8 r):
  ∃r',Rn rows pk port (FD t (f+1) n++suf) r (if D8 t pk port=true then suf else sF) r'/\C8 r':=by
 have hgt:n+2<=EU t n:=by unfold EU;split<;>(try split)<;>omega
 have hg:n+2∉AJ suf:=λhx=>by have:=hl _ hx;omega
 have hoO:n+1∉AJ (Fj t n (f+1) suf):=by
  rw[Px];intro hx;rcases List.mem_cons.1 hx with hx|hx
  ·omega
  ·have:=hl _ hx;omega
 have e:FD t (f+1) n++suf=AZ++(FC t n++EO t n (f+1) suf):=by simp[FD,EO,List.append_assoc]
 rw[e]
 obtain⟨r1,p1,q1,_,q8⟩:=G4 (rows:=rows) (pk:=pk) (port:=port) (r:=r) (suf:=FC t n++EO t n (f+1) suf) hR
 obtain⟨r2,p2,q2,q3⟩:=jA (rows:=rows) (port:=port) (fail:=f+1) hbd hW hb hl q1 q8
 have hlh:=hW.le
 have hl0:=hW.lo0
 have hh64:t.hi<18446744073709551616:=by
  rcases hW.kind with⟨_,_,h⟩|⟨_,_,hz,_,_,_,_,h⟩
  ·omega
  ·have:=UG hz;omega
 have out:GA t pk port=none->Gn t pk port=none->∃r',Rn rows pk port (AZ++(FC t n++EO t n (f+1) suf)) r (if D8 t pk port=true then suf else sF) r'/\C8 r':=by
  intro hn ha;rw[hn]at p2;obtain⟨r3,p3,q4⟩:=Xi (rows:=rows) (pk:=pk) (port:=port) (t:=t) (n:=n) hbd hs hf q2;refine⟨r3,(p1.trans p2).trans ?_,q4⟩;have eh:D8 t pk port=t.neg:=by unfold D8;rw[ha];cases t.neg<;>rfl
  rw[eh];exact p3
 have there:∀v:Int,GA t pk port≠none->Gn t pk port=some v->0<=v->(BS t=true->v<=BX t.size)->(∃r3,Rn rows pk port (EO t n (f+1) suf) r2 (ED t (n+1)++(endS t (n+1) (n+2) (f+1)++suf)) r3/\C8 r3/\r3 2= .num v)->∃r',Rn rows pk port (AZ++(FC t n++EO t n (f+1) suf)) r (if D8 t pk port=true then suf else sF) r'/\C8 r':=by
  rintro v hn ha hv0 hvf ⟨r3,p3,q4,q5⟩;have hsome:(GA t pk port).isSome=true:=by cases h:GA t pk port with|none=>exact absurd h hn|some _=>rfl
  rw[hsome,if_pos rfl]at p2;obtain⟨midE,hE⟩:=UH t n (f+1) suf;obtain⟨r4,p4,q6⟩:=Xh (rows:=rows) (pk:=pk) (port:=port) (t:=t) (n:=n) hbd hl0 (by omega) (by omega) hh64 hv0 hvf hE hoO q4 q5;by_cases hin:t.lo<=v/\v<=t.hi
  ·rw[if_pos hin]at p4;obtain⟨r5,p5,q7⟩:=jB (rows:=rows) (pk:=pk) (port:=port) (t:=t) (n:=n) hbd hs hf hg q6;refine⟨r5,(((p1.trans p2).trans p3).trans p4).trans ?_,q7⟩;have eh:(D8 t pk port=true)=¬(t.neg=true):=by unfold D8;rw[ha];simp[hin]
   by_cases hneg:t.neg=true
   ·rw[if_neg (by rw[eh];exact λh=>h hneg)];rw[if_pos hneg]at p5;exact p5
   ·rw[if_pos (by rw[eh];exact hneg)];rw[if_neg hneg]at p5;exact p5
  ·rw[if_neg hin]at p4;obtain⟨r5,p5,q7⟩:=Xi (rows:=rows) (pk:=pk) (port:=port) (t:=t) (n:=n) hbd hs hf q6;refine⟨r5,(((p1.trans p2).trans p3).trans p4).trans ?_,q7⟩;have eh:D8 t pk port=t.neg:=by unfold D8;rw[ha];simp only[decide_eq_false hin];cases t.neg<;>rfl
   rw[eh];exact p5
 rcases hW.kind with⟨hk,hnb,_⟩|⟨hk,hyb,hz,hp0,hp1,hm1,hm2,_⟩
 ·have hmask:D9 t= []:=by unfold D9;rw[hnb];rfl
  have htail:EO t n (f+1) suf=ED t (n+1)++(endS t (n+1) (n+2) (f+1)++suf):=by unfold EO;rw[hmask];rfl
  rcases hk with hk|hk
  ·have e1:GA t pk port=some (pk.length:Int):=by unfold GA;rw[if_pos hk]
   have e2:Gn t pk port=some (pk.length:Int):=by unfold Gn;rw[if_pos hk]
   exact there _ (by rw[e1];simp) e2 (by omega) (λh=>by rw[hnb]at h;cases h) ⟨r2,by rw[htail];exact Rn.refl,q2,q3 _ e1⟩
  ·have hk1:¬t.kind=1:=by omega
   have e1:GA t pk port=some port:=by unfold GA;rw[if_neg hk1,if_pos hk]
   have e2:Gn t pk port=some port:=by unfold Gn;rw[if_neg hk1,if_pos hk]
   exact there _ (by rw[e1];simp) e2 hport (λh=>by rw[hnb]at h;cases h) ⟨r2,by rw[htail];exact Rn.refl,q2,q3 _ e1⟩
 ·have hk1:¬t.kind=1:=by omega
  have hk2:¬t.kind=2:=by omega
  obtain⟨at_,hat⟩:∃at_,(if t.kind=3 then t.pos.toNat else 14+4*((pk.getD 14 0) % 16).toNat+t.pos.toNat)=at_:=⟨_,rfl⟩
  have e1:GA t pk port=if(t.kind=3\/15<=pk.length)/\at_+t.size.toNat<=pk.length then some (EY (cut pk at_ t.size.toNat))else none:=by
   unfold GA;rw[if_neg hk1,if_neg hk2,←hat]
  have e2:Gn t pk port=if(t.kind=3\/15<=pk.length)/\at_+t.size.toNat<=pk.length then some (DW (Ob (cut pk at_ t.size.toNat)) t.mask)else none:=by
   unfold Gn;rw[if_neg hk1,if_neg hk2,←hat]
  by_cases hc:(t.kind=3\/15<=pk.length)/\at_+t.size.toNat<=pk.length
  ·rw[if_pos hc]at e1 e2;have hle:=iu (a:=Ob (cut pk at_ t.size.toNat)) (b:=t.mask) (by omega);refine there _ (by rw[e1];simp) e2 hle.1 (λ_=>by omega) ?_;have hzb:1<=t.size:=by rcases hz with h|h|h|h<;>omega
   exact cE (rows:=rows) (pk:=pk) (port:=port) hyb hz hm1 hm2 (by rw[cD hc.2];omega) (iq hb) q2 (q3 _ e1)
  ·rw[if_neg hc]at e1 e2;exact out e1 e2
end Go.Cmp
namespace Go.Cmp
open Go Go.DI
variable{pk:List Int}{port:Int}{rows suf suf' sF E:List A9}{r r':Int->RV}
theorem Xj(t:A7)(n:Nat):∀x∈AJ (FC t n),n<x/\x<=EU t n:=by
 intro x hx
 unfold FC at hx
 unfold EU
 by_cases h1:t.kind=1
 ·rw[if_pos h1]at hx;simp[AJ,BY,ins]at hx
 ·rw[if_neg h1]at hx;by_cases h2:t.kind=2
  ·rw[if_pos h2]at hx;simp[AJ,BY,ins]at hx
  ·rw[if_neg h2]at hx;rw[if_neg (by omega)];by_cases h3:t.kind=3
   ·rw[if_pos h3]at hx;rw[if_pos h3];rw[BJ,Fa]at hx;simp[AJ,BY,ins]at hx;omega
   ·rw[if_neg h3]at hx;rw[if_neg h3];rw[BJ,BJ,BJ,Fa]at hx;simp only[List.mem_append]at hx;rcases hx with((hx|hx)|hx)|hx
    ·simp at hx;omega
    ·simp[AJ,BY,ins]at hx
    ·have:=G6 t (n+1) (n+3) 16 0 (n+4) x hx;omega
    ·simp[AJ,BY,lab]at hx;omega
theorem Oj(t:A7)(n:Nat):n+2<=EU t n:=by unfold EU;split<;>(try split)<;>omega
theorem Vl(t:A7)(fail n:Nat):∀x∈AJ (FD t fail n),n<x/\x<=EU t n:=by
 intro x hx
 have hg:=Oj t n
 unfold FD at hx
 rw[BJ,BJ,BJ,BJ,Jz,I8,Lf]at hx
 simp only[List.mem_append]at hx
 rcases hx with(((hx|hx)|hx)|hx)|hx
 ·simp[AJ,BY,AZ,ins]at hx
 ·exact Xj t n x hx
 ·simp at hx
 ·simp at hx
 ·simp at hx;omega
theorem Gp(fail:Nat):∀(ts:List A7) (n:Nat),n<=Cl ts n/\∀x∈AJ (CK fail ts n),n<x/\x<=Cl ts n
 | [],n=>⟨Nat.le_refl _,λx hx=>by simp[CK,AJ]at hx⟩
 |t::ts,n=>by
  obtain⟨h1,h2⟩:=Gp fail ts (EU t n);have hg:=Oj t n;refine⟨by simp only[Cl];omega,λx hx=>?_⟩;simp only[CK,BJ,List.mem_append]at hx;simp only[Cl];rcases hx with hx|hx
  ·have:=Vl t fail n x hx;omega
  ·have:=h2 x hx;omega
theorem Py{f:Nat}{mid:List A9}(hbd:BU rows<=20000)(hb:Dp pk)(hport:0<=port)(hs:suf=mid++lab (f+1)::sF)(hf:f+1∉AJ sF):
  ∀(ts:List A7) (n:Nat) (r:Int->RV),(∀t∈ts,JO t)->(∀x∈AJ suf,x<=n\/Cl ts n<x)->C8 r->
  ∃r',Rn rows pk port (CK (f+1) ts n++suf) r (if ts.all (λt=>D8 t pk port)=true then suf else sF) r'/\C8 r'
 | [],n,r,_,_,hR=>⟨r,by simpa[CK]using Rn.refl,hR⟩
 |t::ts,n,r,hW,hl,hR=>by
  obtain⟨hg1,hg2⟩:=Gp (f+1) ts (EU t n);have hg:=Oj t n;simp only[Cl]at hl
  obtain⟨r1,p1,q1⟩:=cF (rows:=rows) (pk:=pk) (port:=port) (t:=t) (n:=n) (suf:=CK (f+1) ts (EU t n)++suf) (mid:=CK (f+1) ts (EU t n)++mid) (sF:=sF) hbd (hW t (by simp)) hb hport (by rw[hs];simp) hf
   (λx hx=>by
    rw[BJ]at hx;rcases List.mem_append.1 hx with hx|hx
    ·have:=hg2 x hx;omega
    ·have:=hl x hx;omega) hR
  have e:CK (f+1) (t::ts) n++suf=FD t (f+1) n++(CK (f+1) ts (EU t n)++suf):=by simp[CK]
  rw[e];by_cases h:D8 t pk port=true
  ·rw[if_pos h]at p1;obtain⟨r2,p2,q2⟩:=Py hbd hb hport hs hf ts (EU t n) r1 (λx hx=>hW x (by simp[hx])) (λx hx=>by have:=hl x hx;omega) q1;refine⟨r2,p1.trans ?_,q2⟩;rw[List.all_cons,h,Bool.true_and];exact p2
  ·rw[if_neg h]at p1;refine⟨r1,?_,q1⟩;have h':D8 t pk port=false:=by simpa using h
   rw[List.all_cons,h',Bool.false_and];exact p1
def Fin(rows:List A9)(pk:List Int)(port:Int)(suf:List A9)(r:Int->RV)(v:Int):Prop:=
 ∀pre,rows=pre++suf->∃pc n r',I7 (B6 rows) pk port n (BU pre) r pc r'/\(B6 rows)[pc]?=some DC/\r' 0= .num v
theorem Fin.of{v:Int}(h:Rn rows pk port suf r suf' r')(k:Fin rows pk port suf' r' v):Fin rows pk port suf r v:=λpre hp=>by
 obtain⟨p1,n1,e1,h1⟩:=h pre hp
 obtain⟨pc,n2,r2,h2,h3,h4⟩:=k p1 e1
 exact⟨pc,_,r2,h1.trans h2,h3,h4⟩
theorem Xk{v:Int}(h:r 0= .num v):Fin rows pk port (ins DC 0::suf) r v:=λpre hp=>by
 have a1:=EA pre suf DC 0
 rw[if_neg (Nat.lt_irrefl 0),←hp]at a1
 exact⟨BU pre,0,r, .nil,a1,h⟩
theorem UI{v:Int}(h0:0<=v)(h1:v<4294967296):Fin rows pk port (EX v++suf) r v:=by
 refine Fin.of (suf':=ins DC 0::suf) (ie (n:=Jq v)) (Xk ?_)
 rw[CL,Of]
 congr 1
 omega
def Gq(pk:List Int)(port:Int):List A5->Int
 | []=>0
 |r::l=>if r.tests.all (λt=>D8 t pk port)=true then r.verdict else Gq pk port l
structure JP(r:A5):Prop where
 tests:∀t∈r.tests,JO t
 v0:0<=r.verdict
 v1:r.verdict<4294967296
theorem KA(r0:A5)(n:Nat)(suf:List A9):G0 r0 n++suf=AZ++((if r0.tests= []then [ins (Cw 5 2 0) (n+1)]else [])++(CK (n+1) r0.tests (n+1)++(EX r0.verdict++lab (n+1)::suf))):=by simp[G0]
theorem cG{r0:A5}{n:Nat}(hbd:BU rows<=20000)(hb:Dp pk)(hport:0<=port)(hW:JP r0)(hl:∀x∈AJ suf,Cl r0.tests (n+1)<x)(hR:C8 r):
  (r0.tests.all (λt=>D8 t pk port)=true->Fin rows pk port (G0 r0 n++suf) r r0.verdict)/\(¬r0.tests.all (λt=>D8 t pk port)=true->∃r',Rn rows pk port (G0 r0 n++suf) r suf r'/\C8 r'):=by
 have hge:=(Gp (n+1) r0.tests (n+1)).1
 have hf:n+1∉AJ suf:=λhx=>by have:=hl _ hx;omega
 obtain⟨T,hT⟩:∃T,CK (n+1) r0.tests (n+1)++(EX r0.verdict++lab (n+1)::suf)=T:=⟨_,rfl⟩
 rw[KA,hT]
 obtain⟨r1,p1,q1,q2,_⟩:=G4 (rows:=rows) (pk:=pk) (port:=port) (r:=r) (suf:=(if r0.tests= []then [ins (Cw 5 2 0) (n+1)]else [])++T) hR
 have p2:Rn rows pk port ((if r0.tests= []then [ins (Cw 5 2 0) (n+1)]else [])++T) r1 T r1:=by
  split
  ·exact Og (op:=5) (d:=2) (n:=0) (l:=n) (a:=0) (.inr (.inl rfl)) ⟨by decide,by decide⟩ ⟨by decide,by decide⟩ q2 (by simp[Cj])
  ·exact Rn.refl
 obtain⟨r2,p3,q3⟩:=Py (rows:=rows) (pk:=pk) (port:=port) (f:=n) (suf:=EX r0.verdict++lab (n+1)::suf) (mid:=EX r0.verdict) (sF:=suf) hbd hb hport rfl hf r0.tests (n+1) r1 hW.tests
  (λx hx=>by
   rw[BJ,DX]at hx;rcases List.mem_append.1 hx with hx|hx
   ·simp[AJ,BY,EX,ins]at hx
   ·rcases List.mem_cons.1 hx with hx|hx
    ·omega
    ·have:=hl x hx;omega) q1
 rw[hT]at p3
 constructor
 ·intro h;rw[if_pos h]at p3;exact Fin.of ((p1.trans p2).trans p3) (UI hW.v0 hW.v1)
 ·intro h;rw[if_neg h]at p3;exact⟨r2,(p1.trans p2).trans p3,q3⟩
theorem Lg:∀(l:List A5) (n:Nat),∀x∈AJ (Bv l n),n<x
 | [],_,x,h=>by simp[Bv,AJ]at h
 |r0::l,n,x,h=>by
  obtain⟨h1,h2⟩:=Gp (n+1) r0.tests (n+1);simp only[Bv,BJ,List.mem_append]at h;rcases h with h|h
  ·have e:=KA r0 n [];rw[List.append_nil]at e;rw[e,BJ,BJ,BJ,BJ]at h;simp only[List.mem_append]at h;rcases h with h|h|h|h|h
   ·simp[AJ,BY,AZ,ins]at h
   ·split at h<;>simp[AJ,BY,ins]at h
   ·have:=h2 x h;omega
   ·simp[AJ,BY,EX,ins]at h
   ·simp[AJ,BY,lab]at h;omega
  ·have:=Lg l (Cl r0.tests (n+1)) x h;omega
theorem Nk(hbd:BU rows<=20000)(hb:Dp pk)(hport:0<=port):∀(l:List A5) (n:Nat) (r:Int->RV),(∀x∈l,JP x)->C8 r->Fin rows pk port (Bv l n++(AZ++EX 0)) r (Gq pk port l)
 | [],n,r,_,hR=>by
  obtain⟨r1,p1,_⟩:=G4 (rows:=rows) (pk:=pk) (port:=port) (r:=r) (suf:=EX 0) hR;have:=UI (rows:=rows) (pk:=pk) (port:=port) (r:=r1) (suf:= []) (v:=0) (by decide) (by decide);rw[List.append_nil]at this;exact Fin.of p1 this
 |r0::l,n,r,hW,hR=>by
  have e:Bv (r0::l) n++(AZ++EX 0)=G0 r0 n++(Bv l (Cl r0.tests (n+1))++(AZ++EX 0)):=by simp[Bv]
  have hn:∀x∈AJ (Bv l (Cl r0.tests (n+1))++(AZ++EX 0)),Cl r0.tests (n+1)<x:=λx hx=>by
   rw[BJ]at hx;rcases List.mem_append.1 hx with hx|hx
   ·exact Lg l _ x hx
   ·simp[AJ,BY,AZ,EX,ins]at hx
  obtain⟨k1,k2⟩:=cG (rows:=rows) (pk:=pk) (port:=port) (r0:=r0) (n:=n) (r:=r) (suf:=Bv l (Cl r0.tests (n+1))++(AZ++EX 0)) hbd hb hport (hW r0 (by simp)) hn hR;rw[e];by_cases h:r0.tests.all (λt=>D8 t pk port)=true
  ·rw[Gq,if_pos h];exact k1 h
  ·obtain⟨r1,p1,q1⟩:=k2 h;rw[Gq,if_neg h];exact Fin.of p1 (Nk hbd hb hport l (Cl r0.tests (n+1)) r1 (λx hx=>hW x (by simp[hx])) q1)
def Da:Int->RV:=λi=>if i=1 then .ctx else .none
theorem Pz{l:List A5}(hW:∀x∈l,JP x)(hbd:BU (BF l)<=20000)(hb:Dp pk)(hport:0<=port):
  ∃pc n r',I7 (B6 (BF l)) pk port n 0 Da pc r'/\(B6 (BF l))[pc]?=some DC/\r' 0= .num (Gq pk port l)/\n< (B6 (BF l)).length:=by
 have key:Fin (BF l) pk port (BF l) Da (Gq pk port l):=by
  have e:BF l=ins (Ba 11 6 1) 0::ins (BG 8 7 1 8) 0::(Bv l 0++(AZ++EX 0)):=by simp[BF]
  obtain⟨rows,hr⟩:∃rows,BF l=rows:=⟨_,rfl⟩;rw[hr]at hbd;rw[show Fin (BF l) pk port (BF l) Da (Gq pk port l)=Fin rows pk port (ins (Ba 11 6 1) 0::ins (BG 8 7 1 8) 0::(Bv l 0++(AZ++EX 0))) Da (Gq pk port l)by rw[←e,hr]];have h1:=UC (rows:=rows) (pk:=pk) (port:=port) (r:=Da) (d:=6) (s:=1) (suf:=ins (BG 8 7 1 8) 0::(Bv l 0++(AZ++EX 0))) ⟨by decide,by decide⟩ ⟨by decide,by decide⟩ (by show RV.ctx≠RV.none;intro h;cases h);have h2:=ij (rows:=rows) (pk:=pk) (port:=port) (r:=By Da 6 (Da 1)) (d:=7) (s:=1) (suf:=Bv l 0++(AZ++EX 0)) ⟨by decide,by decide⟩ ⟨by decide,by decide⟩ rfl;exact Fin.of (h1.trans h2) (Nk hbd hb hport l 0 _ hW ⟨rfl,rfl⟩)
 obtain⟨pc,n,r',h1,h2,h3⟩:=key [] rfl
 have hle:=h1.le
 have hlt:pc< (B6 (BF l)).length:=(List.getElem?_eq_some_iff.1 h2).1
 refine⟨pc,n,r',h1,h2,h3,?_⟩
 have:BU ([]:List A9)=0:=rfl
 omega
end Go.Cmp
namespace Go.Cmp
open Go Go.DI
def u64(a:Int):Prop:=0<=a/\a<18446744073709551616
theorem Hn{n:Nat}(h:n<18446744073709551616):(BitVec.ofInt 64 (n:Int)).toNat=n:=by
 rw[BitVec.toNat_ofInt]
 show((n:Int) % 18446744073709551616).toNat=n
 omega
theorem Tl{a b:Int}(ha:u64 a)(hb:u64 b):IntKind.wrap .u64 (Int.ofNat (BitVec.toNat (HAnd.hAnd (BitVec.ofInt 64 a) (BitVec.ofInt 64 b))))=DW a b:=by
 obtain⟨n,rfl⟩:=Int.eq_ofNat_of_zero_le ha.1
 obtain⟨m,rfl⟩:=Int.eq_ofNat_of_zero_le hb.1
 have h1:=ha.2
 have h2:=hb.2
 have e:BitVec.toNat (HAnd.hAnd (BitVec.ofInt 64 (n:Int)) (BitVec.ofInt 64 (m:Int)))=n &&& m:=by
  rw[BitVec.toNat_and,Hn (by omega),Hn (by omega)]
 rw[e]
 have hle:=Nat.and_le_left (n:=n) (m:=m)
 show IntKind.wrap .u64 ((n &&& m:Nat):Int)=DW _ _
 rw[IntWalk.u64_in _ (by omega)]
 unfold DW
 rw[Int.toNat_natCast,Int.toNat_natCast]
theorem bT(n b:Nat)(hb:b<256):(n <<<8)|||b=n*256+b:=by
 rw[←Nat.shiftLeft_add_eq_or_of_lt (i:=8) (by simpa using hb),Nat.shiftLeft_eq]
def iK(pk:List Int)(port:Int):List A5->Nat->Int
 | [],_=> -1
 |r::l,i=>if r.tests.all (λt=>D8 t pk port)=true then(i:Int)else iK pk port l (i+1)
end Go.Cmp
namespace Go.Cmp
open Go Go.DI
end Go.Cmp
namespace Go.DI
namespace Kit
theorem T0{P:Program}{G:Nat}{o:DT}(h:∀f a m v m',o f a m=some (v,m')->∃R:FQ,(∀B0,CT P B0 G R)/\Bc R/\R f a m=some (v,m')):(∀B0,CT P B0 G o)/\Bc o:=by
 refine⟨λB0=>⟨λf a m v m' hq=>?_,λf a m v m' hq=>?_,λf a m v m' hq=>?_⟩,λf a m v m' hq=>?_⟩
 ·obtain⟨R,h1,h2,h3⟩:=h _ _ _ _ _ hq;exact(h1 B0).size _ _ _ _ _ h3
 ·obtain⟨R,h1,h2,h3⟩:=h _ _ _ _ _ hq;exact(h1 B0).ok _ _ _ _ _ h3
 ·obtain⟨R,h1,h2,h3⟩:=h _ _ _ _ _ hq;exact(h1 B0).body _ _ _ _ _ h3
 ·obtain⟨R,h1,h2,h3⟩:=h _ _ _ _ _ hq;exact h2 _ _ _ _ _ h3
end Kit
end Go.DI
namespace Go.Proofs.YtgjflcgmieiafaaDoor
open Go Go.DI Go.DI.Kit Go.Proofs Go.Cmp
noncomputable section
theorem Br:Tryd.prog.follows .mixedOrders=true:=by kernel_rfl
def o0:DT:=λ_ _ _=>none
theorem aJ:(∀B0,CT Tryd.prog B0 1 o0)/\Bc o0:=T0 λf a m v m' h=>by cases h
structure s9(a:List Value):Prop where
 ex:∃b sp n c off z,a= [.slice (some ⟨b,0,sp⟩) n c, .int .i64 off, .int .i64 z]/\Pn z/\0<=off/\off+z<=n/\n<=1000000
open Classical in
def oW:DT:=λf a m=>if f=85/\s9 a then some (.int .i64 0,m)else none
theorem wrap_i64{x:Int}(h: -9223372036854775808<=x/\x<=9223372036854775807):IntKind.wrap .i64 x=x:=IntWalk.i64_in _ h
theorem T1{a:List Value}(h:s9 a)(M:Mem):Bw Tryd.prog kp 1 o0 20 85 a M=some (.int .i64 0,M):=by
 obtain⟨b,sp,n,c,off,z,rfl,hz,h0,h1,h2⟩:=h.ex
 have hzb:1<=z/\z<=8:=by rcases hz with h|h|h|h<;>omega
 have ht:=aD b sp n c off M z hz
 obtain⟨v,m',q1,q2⟩:=H.callO_H (H:=hW) (o:=o0) (λf v args m h=>by cases h) (λf _ a m=>rfl) (g:=λv m=>(v,m)) (b:=(.int .i64 0,M)) (qs:=_) (by rw[ht];rfl) (by rw[ht];rfl) (by
  intro p hp;simp only[List.mem_cons,List.not_mem_nil,or_false]at hp;rcases hp with rfl|rfl
  ·simp[CC,CA,CN];omega
  ·have e:IntKind.wrap .i64 (Int.sub (Int.ofNat n) z)=(n:Int) - z:=wrap_i64 (by show _<=(n:Int) - z/\(n:Int) - z<=_;omega);rw[e];simp[CC,CA,CN];omega)
 rw[q1]
 simp only[Prod.mk.injEq]at q2
 rw[q2.1,q2.2]
theorem aK:(∀B0,CT Tryd.prog B0 1 oW)/\Bc oW:=T0 λf a m v m' h=>by
 unfold oW at h
 split at h<;>simp at h
 rename_i hc
 obtain⟨rfl,rfl⟩:=h
 obtain⟨rfl,hw⟩:=hc
 exact⟨Bw Tryd.prog kp 1 o0 20,λB0=>Dg Br hK FZ (aJ.1 B0) aJ.2 20,Cb aJ.2 20,T1 hw m⟩
theorem wrap_u64{x:Int}(h:u64 x):IntKind.wrap .u64 x=x:=IntWalk.u64_in _ (by have:=h.1;have:=h.2;omega)
theorem sd{a:Int}(h0:0<=a)(h1:a<72057594037927936):NJ a 8=256*a:=by
 show IntKind.wrap .u64 (a*2 ^ (min (8:Int).toNat 64))=_
 rw[show a*2 ^ (min (8:Int).toNat 64)=256*a by show a*2 ^ 8=_;omega]
 exact wrap_u64 ⟨by omega,by omega⟩
theorem T2{a b:Nat}(ha:a<18446744073709551616)(hb:b<18446744073709551616):eu (a:Int) (b:Int)=((a|||b:Nat):Int):=by
 have h:(a|||b)<2 ^ 64:=Nat.or_lt_two_pow (by omega) (by omega)
 have e:BitVec.toNat (HOr.hOr (BitVec.ofInt 64 (a:Int)) (BitVec.ofInt 64 (b:Int)))=a|||b:=by
  rw[BitVec.toNat_or,Hn ha,Hn hb]
 show IntKind.wrap .u64 ((BitVec.toNat (HOr.hOr (BitVec.ofInt 64 (a:Int)) (BitVec.ofInt 64 (b:Int))):Nat):Int)=_
 rw[e]
 exact wrap_u64 ⟨by omega,by omega⟩
theorem or8{a b:Int}(h0:0<=a)(h1:a<72057594037927936)(hb:0<=b)(hb1:b<256):eu (NJ a 8) (IntKind.wrap .u64 b)=256*a+b:=by
 rw[sd h0 h1,wrap_u64 ⟨hb,by omega⟩]
 obtain⟨n,rfl⟩:=Int.eq_ofNat_of_zero_le h0
 obtain⟨k,rfl⟩:=Int.eq_ofNat_of_zero_le hb
 rw[show(256:Int)*(n:Int)=((n*256:Nat):Int)by omega,T2 (by omega) (by omega)]
 have:=bT n k (by omega)
 rw[Nat.shiftLeft_eq]at this
 rw[show n*256=n*2 ^ 8 by omega,this]
 omega
theorem aL{pk:List Int}{a z:Nat}(h:a<pk.length):cut pk a (z+1)=pk.getD a 0::cut pk (a+1) z:=by
 unfold cut
 rw[List.drop_eq_getElem_cons h,List.take_succ_cons,List.getD_eq_getElem?_getD,List.getElem?_eq_getElem h]
 rfl
theorem G5:∀(l:List Int),(∀b∈l,0<=b/\b<256)->0<=EY l/\EY l<256 ^ l.length
 | [],_=>by simp[EY]
 |b::l,h=>by
  have ih:=G5 l λx hx=>h x (List.mem_cons_of_mem _ hx);have hb:=h b (List.mem_cons_self ..);have e:EY (b::l)=b+256*EY l:=rfl;rw[e,List.length_cons,Int.pow_succ];omega
theorem V2{pk:List Int}{a z:Nat}(hr:∀b∈pk,0<=b/\b<256)(h:a+z<=pk.length):0<=EY (cut pk a z)/\EY (cut pk a z)<256 ^ z:=by
 have:=G5 (cut pk a z) λb hb=>hr b (List.mem_of_mem_drop (List.mem_of_mem_take hb))
 have hl:(cut pk a z).length=z:=by unfold cut;rw[List.length_take,List.length_drop];omega
 rw[hl]at this
 exact this
def gP(pk:List Int):Nat->Int:=λi=>pk.getD i 0
section
variable{x:BI}{n:Nat}{off z:Int}{pk:List Int}
theorem I2.ix(h:I2 x n off z pk){j:Nat}(hj:(j:Int)<z):pZ off j=off+j:=by
 have:=h.fits;have:=h.off0;have:=h.small
 exact wrap_i64 (by show _<=off+(j:Int)/\off+(j:Int)<=_;omega)
theorem I2.ad(h:I2 x n off z pk){j:Nat}(hj:(j:Int)<z):oZ off j=off.toNat+j:=by
 have:=h.off0
 unfold oZ
 rw[h.ix hj]
 show 0+(off+(j:Int)).toNat*1=_
 omega
theorem I2.nG(h:I2 x n off z pk){j k:Nat}(hj:(j:Int)<z)(hk:j+k+1=z.toNat)(hk7:k<=7):nG (gP pk) off (EY (cut pk (off.toNat+(j+1)) k)) j=EY (cut pk (off.toNat+j) (k+1)):=by
 have h1:=h.fits;have h2:=h.off0
 have hlt:off.toNat+j<pk.length:=by omega
 have hb:=V2 (a:=off.toNat+(j+1)) (z:=k) h.rng (by omega)
 have hbb:EY (cut pk (off.toNat+(j+1)) k)<72057594037927936:=by
  have:(256:Int) ^ k<=72057594037927936:=by
   have hc:k=0\/k=1\/k=2\/k=3\/k=4\/k=5\/k=6\/k=7:=by omega
   rcases hc with rfl|rfl|rfl|rfl|rfl|rfl|rfl|rfl<;>decide
  omega
 have hg:gP pk (off.toNat+j)=pk.getD (off.toNat+j) 0:=rfl
 have hgr:=h.rng (pk.getD (off.toNat+j) 0) (by rw[List.getD_eq_getElem?_getD,List.getElem?_eq_getElem hlt];exact List.getElem_mem hlt)
 unfold Go.Proofs.YtgjflcgmieiafaaDoor.nG
 rw[h.ad hj,hg,or8 hb.1 hbb hgr.1 hgr.2,aL hlt]
 show _=pk.getD (off.toNat+j) 0+256*EY (cut pk (off.toNat+j+1) k)
 rw[Nat.add_assoc];omega
theorem I2.pG{M:Mem}{b:Nat}(h:I2 (M.get b) n off z pk){j:Nat}(hj:(j:Int)<z):∀p∈pG M b n (gP pk) off j,p:=by
 have h1:=h.fits;have h2:=h.off0;have h3:=h.len
 intro p hp
 rcases List.mem_cons.1 hp with rfl|hp
 ·rw[h.ix hj];omega
 ·obtain rfl:=List.mem_singleton.1 hp;rw[h.ad hj];obtain⟨own,hb⟩:=h.blk;show H.blkNth (M.get b) _=_;rw[hb];show(AQ pk)[off.toNat+j]?=_;have hlt:off.toNat+j<pk.length:=by omega
  unfold AQ gP;rw[List.getElem?_map,List.getElem?_eq_getElem hlt,List.getD_eq_getElem?_getD,List.getElem?_eq_getElem hlt];rfl
theorem fH{M:Mem}{b c:Nat}{sp:Option Nat}(h:I2 (M.get b) n off z pk):Bw Tryd.prog kp 1 oW 20 64 [.slice (some ⟨b,0,sp⟩) n c, .int .i64 off, .int .i64 z] M=some (.tuple ⟨[.int .u64 (EY (cut pk off.toNat z.toNat)), .int .i64 0]⟩,M):=by
 have hW:s9 [.slice (some ⟨b,0,sp⟩) n c, .int .i64 off, .int .i64 z]:=⟨b,sp,n,c,off,z,rfl,h.sz,h.off0,by have:=h.fits;have:=h.len;omega,by have:=h.small;have:=h.len;omega⟩
 have hp0:o5 M b sp n c (gP pk) off z:=⟨rfl,rfl,hW.ex⟩
 have h1:∀f v args m,(hG (gP pk)).call f=some v->(hG (gP pk)).spec f args (m.get (hG (gP pk)).blk) v->oW f args m=some (v,m):=by
  rintro f v args m hc ⟨rfl,rfl,hw⟩;exact if_pos ⟨rfl,⟨hw⟩⟩
 have h2:∀f,(hG (gP pk)).call f=none->∀a m,oW f a m=none:=by
  intro f hc a m;have hne:f≠85:=by rintro rfl;cases hc
  exact if_neg λh=>hne h.1
 have key:∀(N:Int) (qs:List Prop),Rg (gP pk) b sp n c off z M=some ((.tuple ⟨[.int .u64 N, .int .i64 0]⟩,M),[],qs)->(∀p∈qs,p)->N=EY (cut pk off.toNat z.toNat)->Bw Tryd.prog kp 1 oW 20 64 [.slice (some ⟨b,0,sp⟩) n c, .int .i64 off, .int .i64 z] M=some (.tuple ⟨[.int .u64 (EY (cut pk off.toNat z.toNat)), .int .i64 0]⟩,M):=by
  intro N qs hr hq hN
  obtain⟨v,m',q1,q2⟩:=H.callO_H (H:=hG (gP pk)) (o:=oW) h1 h2 (k:=20) (f:=64) (args:= [.slice (some ⟨b,0,sp⟩) n c, .int .i64 off, .int .i64 z]) (m:=M) (g:=λv m=>(v,m)) (b:=(.tuple ⟨[.int .u64 N, .int .i64 0]⟩,M)) (qs:=qs) (by
    show(Rg (gP pk) b sp n c off z M).map _=_;rw[hr];rfl) (by
    show(Rg (gP pk) b sp n c off z M).map _=(Rg (gP pk) b sp n c off z M).map _;rw[hr];rfl) hq
  rw[q1];simp only[Prod.mk.injEq]at q2;rw[q2.1,q2.2,hN]
 have hz0:EY (cut pk (off.toNat+z.toNat) 0)=0:=by simp[cut,EY]
 rcases h.sz with rfl|rfl|rfl|rfl
 ·refine key _ _ (lK ..) ?_ ?_
  ·intro p hp;rcases List.mem_cons.1 hp with rfl|hp
   ·exact hp0
   ·exact h.pG (by decide) p hp
  ·have e0:=h.nG (j:=0) (k:=0) (by decide) (by decide) (by decide);rw[show EY (cut pk (off.toNat+(0+1)) 0)=0 from hz0]at e0;exact e0
 ·refine key _ _ (lL ..) ?_ ?_
  ·intro p hp;rcases List.mem_cons.1 hp with rfl|hp
   ·exact hp0
   ·simp only[List.mem_append]at hp;rcases hp with hp|hp<;>exact h.pG (by decide) p hp
  ·have e1:=h.nG (j:=1) (k:=0) (by decide) (by decide) (by decide);rw[show EY (cut pk (off.toNat+(1+1)) 0)=0 from hz0]at e1;have e0:=h.nG (j:=0) (k:=1) (by decide) (by decide) (by decide);rw[e1];exact e0
 ·refine key _ _ (lM ..) ?_ ?_
  ·intro p hp;rcases List.mem_cons.1 hp with rfl|hp
   ·exact hp0
   ·simp only[List.mem_append]at hp;rcases hp with hp|hp|hp|hp<;>exact h.pG (by decide) p hp
  ·have e3:=h.nG (j:=3) (k:=0) (by decide) (by decide) (by decide);rw[show EY (cut pk (off.toNat+(3+1)) 0)=0 from hz0]at e3;have e2:=h.nG (j:=2) (k:=1) (by decide) (by decide) (by decide);have e1:=h.nG (j:=1) (k:=2) (by decide) (by decide) (by decide);have e0:=h.nG (j:=0) (k:=3) (by decide) (by decide) (by decide);rw[e3,e2,e1];exact e0
 ·refine key _ _ (lN ..) ?_ ?_
  ·intro p hp;rcases List.mem_cons.1 hp with rfl|hp
   ·exact hp0
   ·simp only[List.mem_append]at hp;rcases hp with hp|hp|hp|hp|hp|hp|hp|hp<;>exact h.pG (by decide) p hp
  ·have e7:=h.nG (j:=7) (k:=0) (by decide) (by decide) (by decide);rw[show EY (cut pk (off.toNat+(7+1)) 0)=0 from hz0]at e7;have e6:=h.nG (j:=6) (k:=1) (by decide) (by decide) (by decide);have e5:=h.nG (j:=5) (k:=2) (by decide) (by decide) (by decide);have e4:=h.nG (j:=4) (k:=3) (by decide) (by decide) (by decide);have e3:=h.nG (j:=3) (k:=4) (by decide) (by decide) (by decide);have e2:=h.nG (j:=2) (k:=5) (by decide) (by decide) (by decide);have e1:=h.nG (j:=1) (k:=6) (by decide) (by decide) (by decide);have e0:=h.nG (j:=0) (k:=7) (by decide) (by decide) (by decide);rw[e7,e6,e5,e4,e3,e2,e1];exact e0
end
end
end Go.Proofs.YtgjflcgmieiafaaDoor
namespace Go.Proofs.YtgjflcgmieiafaaDoor
open Go Go.DI Go.DI.Kit Go.Proofs Go.Cmp
noncomputable section
set_option maxHeartbeats 4000000
theorem fm(L P:List Value)(pv:Value)(n:Nat)(port k0 n0 k1 n1 k2 n2 k3 n3 k4 n4 k5 n5 k6 n6 k7 n7 k8 n8 k9 n9 at_ st imm:Int):
 Cm (BA (AP (DE 11 2 imm)) 0 true 0 (mV L P (AM n) pv port (AI k0 n0 k1 n1 k2 n2 k3 n3 k4 n4 k5 n5 k6 n6 k7 n7 k8 n8 k9 n9) at_ st false 0))=
  some (seenV (.bool true) L P (AM n) pv port (AI k0 n0 k1 n1 1 (Ed imm) k3 n3 k4 n4 k5 n5 k6 n6 k7 n7 k8 n8 k9 n9) (C7 at_) (C7 st) false 0,[Fw at_ n,GB L at_ (AP (DE 11 2 imm))])/\
 BC (BA (AP (DE 11 2 imm)) 0 true 0 (mV L P (AM n) pv port (AI k0 n0 k1 n1 k2 n2 k3 n3 k4 n4 k5 n5 k6 n6 k7 n7 k8 n8 k9 n9) at_ st false 0)):=⟨by kernel_rfl,by unfold BC;kernel_rfl⟩
theorem XN(L P:List Value)(pv:Value)(n:Nat)(port k0 n0 n1 k2 n2 k3 n3 k4 n4 k5 n5 k6 n6 k7 n7 k8 n8 k9 n9 at_ st:Int):
 Cm (BA (AP (Ba 11 6 1)) 0 true 0 (mV L P (AM n) pv port (AI k0 n0 1 n1 k2 n2 k3 n3 k4 n4 k5 n5 k6 n6 k7 n7 k8 n8 k9 n9) at_ st false 0))=
  some (seenV (.bool true) L P (AM n) pv port (AI k0 n0 1 n1 k2 n2 k3 n3 k4 n4 k5 n5 1 n1 k7 n7 k8 n8 k9 n9) (C7 at_) (C7 st) false 0,[Fw at_ n,GB L at_ (AP (Ba 11 6 1))])/\
 BC (BA (AP (Ba 11 6 1)) 0 true 0 (mV L P (AM n) pv port (AI k0 n0 1 n1 k2 n2 k3 n3 k4 n4 k5 n5 k6 n6 k7 n7 k8 n8 k9 n9) at_ st false 0)):=⟨by kernel_rfl,by unfold BC;kernel_rfl⟩
theorem XO(L P:List Value)(pv:Value)(n:Nat)(port k0 n0 k1 n1 k2 n2 k3 n3 k4 n4 k5 n5 k6 n6 k7 n7 n8 k9 n9 at_ st:Int):
 Cm (BA (AP (Ba 11 2 8)) 0 true 0 (mV L P (AM n) pv port (AI k0 n0 k1 n1 k2 n2 k3 n3 k4 n4 k5 n5 k6 n6 k7 n7 2 n8 k9 n9) at_ st false 0))=
  some (seenV (.bool true) L P (AM n) pv port (AI k0 n0 k1 n1 2 n8 k3 n3 k4 n4 k5 n5 k6 n6 k7 n7 2 n8 k9 n9) (C7 at_) (C7 st) false 0,[Fw at_ n,GB L at_ (AP (Ba 11 2 8))])/\
 BC (BA (AP (Ba 11 2 8)) 0 true 0 (mV L P (AM n) pv port (AI k0 n0 k1 n1 k2 n2 k3 n3 k4 n4 k5 n5 k6 n6 k7 n7 2 n8 k9 n9) at_ st false 0)):=⟨by kernel_rfl,by unfold BC;kernel_rfl⟩
theorem lr(L P:List Value)(pv:Value)(n:Nat)(port k0 n0 k1 n1 k4 n4 k5 n5 k6 n6 k7 n7 k8 n8 k9 n9 at_ st a c:Int):
 Cm (BA (AP (Ba 5 2 3)) 0 true 0 (mV L P (AM n) pv port (AI k0 n0 k1 n1 1 a 1 c k4 n4 k5 n5 k6 n6 k7 n7 k8 n8 k9 n9) at_ st false 0))=
  some (seenV (.bool true) L P (AM n) pv port (AI k0 n0 k1 n1 1 (LJ a c) 1 c k4 n4 k5 n5 k6 n6 k7 n7 k8 n8 k9 n9) (C7 at_) (C7 st) false 0,[Fw at_ n,GB L at_ (AP (Ba 5 2 3))])/\
 BC (BA (AP (Ba 5 2 3)) 0 true 0 (mV L P (AM n) pv port (AI k0 n0 k1 n1 1 a 1 c k4 n4 k5 n5 k6 n6 k7 n7 k8 n8 k9 n9) at_ st false 0)):=⟨by kernel_rfl,by unfold BC;kernel_rfl⟩
theorem bF(L P:List Value)(pv:Value)(n:Nat)(port k0 n0 k1 n1 k2 n2 k3 n3 k4 n4 k5 n5 n6 k7 n7 k8 n8 k9 n9 at_ st:Int):
 Cm (BA (AP (BG 4 2 6 4)) 0 true 0 (mV L P (AM n) pv port (AI k0 n0 k1 n1 k2 n2 k3 n3 k4 n4 k5 n5 2 n6 k7 n7 k8 n8 k9 n9) at_ st false 0))=
  some (seenV (.bool true) L P (AM n) pv port (AI k0 n0 k1 n1 1 (IntKind.wrap .u64 port) k3 n3 k4 n4 k5 n5 2 n6 k7 n7 k8 n8 k9 n9) (C7 at_) (C7 st) false 0,[Fw at_ n,GB L at_ (AP (BG 4 2 6 4))])/\
 BC (BA (AP (BG 4 2 6 4)) 0 true 0 (mV L P (AM n) pv port (AI k0 n0 k1 n1 k2 n2 k3 n3 k4 n4 k5 n5 2 n6 k7 n7 k8 n8 k9 n9) at_ st false 0)):=⟨by kernel_rfl,by unfold BC;kernel_rfl⟩
theorem pB(L P:List Value)(pa:Option Addr)(pn pc:Nat)(n:Nat)(port k0 n0 k1 n1 k2 n2 k3 n3 k4 n4 k5 n5 k6 n6 n7 k8 n8 k9 n9 at_ st o N:Int):
 Cm (BA (AP (BG 2 2 7 o)) 0 true N (mV L P (AM n) (.slice pa pn pc) port (AI k0 n0 k1 n1 k2 n2 k3 n3 k4 n4 k5 n5 k6 n6 3 n7 k8 n8 k9 n9) at_ st false 0))=
  some (seenV (.bool true) L P (AM n) (.slice pa pn pc) port (AI k0 n0 k1 n1 1 N k3 n3 k4 n4 k5 n5 k6 n6 3 n7 k8 n8 k9 n9) (C7 at_) (C7 st) false 0,[Fw at_ n,GB L at_ (AP (BG 2 2 7 o)),DD 64 [.slice pa pn pc, .int .i64 (Rl o), .int .i64 2] (.cells true P) (.tuple ⟨[.int .u64 N, .int .i64 0]⟩)])/\
 BC (BA (AP (BG 2 2 7 o)) 0 true N (mV L P (AM n) (.slice pa pn pc) port (AI k0 n0 k1 n1 k2 n2 k3 n3 k4 n4 k5 n5 k6 n6 3 n7 k8 n8 k9 n9) at_ st false 0)):=⟨by kernel_rfl,by unfold BC;kernel_rfl⟩
theorem fo(L P:List Value)(pv:Value)(n:Nat)(port k0 n0 k1 n1 k3 n3 k4 n4 k5 n5 k6 n6 k7 n7 k8 n8 k9 n9 at_ st a:Int):
 Cm (BA (AP (C0 2)) 0 true 0 (mV L P (AM n) pv port (AI k0 n0 k1 n1 1 a k3 n3 k4 n4 k5 n5 k6 n6 k7 n7 k8 n8 k9 n9) at_ st false 0))=
  some (seenV (.bool true) L P (AM n) pv port (AI k0 n0 k1 n1 1 (Kd (Na a) 48) k3 n3 k4 n4 k5 n5 k6 n6 k7 n7 k8 n8 k9 n9) (C7 at_) (C7 st) false 0,[Fw at_ n,GB L at_ (AP (C0 2))])/\
 BC (BA (AP (C0 2)) 0 true 0 (mV L P (AM n) pv port (AI k0 n0 k1 n1 1 a k3 n3 k4 n4 k5 n5 k6 n6 k7 n7 k8 n8 k9 n9) at_ st false 0)):=⟨by kernel_rfl,by unfold BC;kernel_rfl⟩
theorem T5(L P:List Value)(pv:Value)(n:Nat)(port k0 n0 k1 n1 k3 n3 k4 n4 k5 n5 k6 n6 k7 n7 k8 n8 k9 n9 at_ st a imm o:Int):
 Cm (BA (AP (BE (Cw 3 2 imm) o)) 0 true 0 (mV L P (AM n) pv port (AI k0 n0 k1 n1 1 a k3 n3 k4 n4 k5 n5 k6 n6 k7 n7 k8 n8 k9 n9) at_ st false 0))=
  some (seenV (.bool true) L P (AM n) pv port (AI k0 n0 k1 n1 1 a k3 n3 k4 n4 k5 n5 k6 n6 k7 n7 k8 n8 k9 n9) (IntKind.wrap .i64 (Int.add (C7 at_) (IntKind.wrap .i64 o))) (C7 st) false 0,[Fw at_ n,GB L at_ (AP (BE (Cw 3 2 imm) o)),DD 71 [.int .i64 3, .bool true, .int .u64 a, .int .u64 (Ed imm)] (.cells true P) (.tuple ⟨[.bool true, .int .i64 0]⟩)])/\
 BC (BA (AP (BE (Cw 3 2 imm) o)) 0 true 0 (mV L P (AM n) pv port (AI k0 n0 k1 n1 1 a k3 n3 k4 n4 k5 n5 k6 n6 k7 n7 k8 n8 k9 n9) at_ st false 0)):=⟨by kernel_rfl,by unfold BC;kernel_rfl⟩
theorem T6(L P:List Value)(pv:Value)(n:Nat)(port k0 n0 k1 n1 k2 n2 k3 n3 k4 n4 k5 n5 k6 n6 k7 n7 k9 n9 at_ st a imm o:Int):
 Cm (BA (AP (BE (Cw 3 8 imm) o)) 0 false 0 (mV L P (AM n) pv port (AI k0 n0 k1 n1 k2 n2 k3 n3 k4 n4 k5 n5 k6 n6 k7 n7 1 a k9 n9) at_ st false 0))=
  some (seenV (.bool true) L P (AM n) pv port (AI k0 n0 k1 n1 k2 n2 k3 n3 k4 n4 k5 n5 k6 n6 k7 n7 1 a k9 n9) (C7 at_) (C7 st) false 0,[Fw at_ n,GB L at_ (AP (BE (Cw 3 8 imm) o)),DD 71 [.int .i64 3, .bool true, .int .u64 a, .int .u64 (Ed imm)] (.cells true P) (.tuple ⟨[.bool false, .int .i64 0]⟩)])/\
 BC (BA (AP (BE (Cw 3 8 imm) o)) 0 false 0 (mV L P (AM n) pv port (AI k0 n0 k1 n1 k2 n2 k3 n3 k4 n4 k5 n5 k6 n6 k7 n7 1 a k9 n9) at_ st false 0)):=⟨by kernel_rfl,by unfold BC;kernel_rfl⟩
theorem T7(L P:List Value)(pv:Value)(n:Nat)(port k0 n0 k1 n1 k2 n2 k3 n3 k4 n4 k5 n5 k6 n6 k7 n7 k9 n9 at_ st a imm o:Int):
 Cm (BA (AP (BE (Cw 5 8 imm) o)) 0 true 0 (mV L P (AM n) pv port (AI k0 n0 k1 n1 k2 n2 k3 n3 k4 n4 k5 n5 k6 n6 k7 n7 1 a k9 n9) at_ st false 0))=
  some (seenV (.bool true) L P (AM n) pv port (AI k0 n0 k1 n1 k2 n2 k3 n3 k4 n4 k5 n5 k6 n6 k7 n7 1 a k9 n9) (IntKind.wrap .i64 (Int.add (C7 at_) (IntKind.wrap .i64 o))) (C7 st) false 0,[Fw at_ n,GB L at_ (AP (BE (Cw 5 8 imm) o)),DD 71 [.int .i64 5, .bool true, .int .u64 a, .int .u64 (Ed imm)] (.cells true P) (.tuple ⟨[.bool true, .int .i64 0]⟩)])/\
 BC (BA (AP (BE (Cw 5 8 imm) o)) 0 true 0 (mV L P (AM n) pv port (AI k0 n0 k1 n1 k2 n2 k3 n3 k4 n4 k5 n5 k6 n6 k7 n7 1 a k9 n9) at_ st false 0)):=⟨by kernel_rfl,by unfold BC;kernel_rfl⟩
theorem Rm(L P:List Value)(pv:Value)(n:Nat)(port k0 n0 k1 n1 k3 n3 k4 n4 k5 n5 k6 n6 k7 n7 k8 n8 k9 n9 at_ st a imm o:Int):
 Cm (BA (AP (BE (Cw 10 2 imm) o)) 0 false 0 (mV L P (AM n) pv port (AI k0 n0 k1 n1 1 a k3 n3 k4 n4 k5 n5 k6 n6 k7 n7 k8 n8 k9 n9) at_ st false 0))=
  some (seenV (.bool true) L P (AM n) pv port (AI k0 n0 k1 n1 1 a k3 n3 k4 n4 k5 n5 k6 n6 k7 n7 k8 n8 k9 n9) (C7 at_) (C7 st) false 0,[Fw at_ n,GB L at_ (AP (BE (Cw 10 2 imm) o)),DD 71 [.int .i64 10, .bool true, .int .u64 a, .int .u64 (Ed imm)] (.cells true P) (.tuple ⟨[.bool false, .int .i64 0]⟩)])/\
 BC (BA (AP (BE (Cw 10 2 imm) o)) 0 false 0 (mV L P (AM n) pv port (AI k0 n0 k1 n1 1 a k3 n3 k4 n4 k5 n5 k6 n6 k7 n7 k8 n8 k9 n9) at_ st false 0)):=⟨by kernel_rfl,by unfold BC;kernel_rfl⟩
theorem T8(L P:List Value)(pv:Value)(n:Nat)(port k0 n0 k1 n1 k3 n3 k4 n4 k5 n5 k6 n6 k7 n7 k8 n8 k9 n9 at_ st a imm o:Int):
 Cm (BA (AP (BE (Cw 2 2 imm) o)) 0 true 0 (mV L P (AM n) pv port (AI k0 n0 k1 n1 1 a k3 n3 k4 n4 k5 n5 k6 n6 k7 n7 k8 n8 k9 n9) at_ st false 0))=
  some (seenV (.bool true) L P (AM n) pv port (AI k0 n0 k1 n1 1 a k3 n3 k4 n4 k5 n5 k6 n6 k7 n7 k8 n8 k9 n9) (IntKind.wrap .i64 (Int.add (C7 at_) (IntKind.wrap .i64 o))) (C7 st) false 0,[Fw at_ n,GB L at_ (AP (BE (Cw 2 2 imm) o)),DD 71 [.int .i64 2, .bool true, .int .u64 a, .int .u64 (Ed imm)] (.cells true P) (.tuple ⟨[.bool true, .int .i64 0]⟩)])/\
 BC (BA (AP (BE (Cw 2 2 imm) o)) 0 true 0 (mV L P (AM n) pv port (AI k0 n0 k1 n1 1 a k3 n3 k4 n4 k5 n5 k6 n6 k7 n7 k8 n8 k9 n9) at_ st false 0)):=⟨by kernel_rfl,by unfold BC;kernel_rfl⟩
theorem T9(L P:List Value)(pv:Value)(n:Nat)(port k0 n0 k1 n1 k2 n2 k3 n3 k4 n4 k5 n5 k6 n6 k7 n7 k9 n9 at_ st a imm o:Int):
 Cm (BA (AP (BE (Cw 2 8 imm) o)) 0 false 0 (mV L P (AM n) pv port (AI k0 n0 k1 n1 k2 n2 k3 n3 k4 n4 k5 n5 k6 n6 k7 n7 1 a k9 n9) at_ st false 0))=
  some (seenV (.bool true) L P (AM n) pv port (AI k0 n0 k1 n1 k2 n2 k3 n3 k4 n4 k5 n5 k6 n6 k7 n7 1 a k9 n9) (C7 at_) (C7 st) false 0,[Fw at_ n,GB L at_ (AP (BE (Cw 2 8 imm) o)),DD 71 [.int .i64 2, .bool true, .int .u64 a, .int .u64 (Ed imm)] (.cells true P) (.tuple ⟨[.bool false, .int .i64 0]⟩)])/\
 BC (BA (AP (BE (Cw 2 8 imm) o)) 0 false 0 (mV L P (AM n) pv port (AI k0 n0 k1 n1 k2 n2 k3 n3 k4 n4 k5 n5 k6 n6 k7 n7 1 a k9 n9) at_ st false 0)):=⟨by kernel_rfl,by unfold BC;kernel_rfl⟩
theorem XP(L P:List Value)(pv:Value)(n:Nat)(port k0 n0 k1 n1 k4 n4 k5 n5 k6 n6 k7 n7 k8 n8 k9 n9 at_ st a c o:Int):
 Cm (BA (AP (BE (Ec 2) o)) 0 true 0 (mV L P (AM n) pv port (AI k0 n0 k1 n1 1 a 1 c k4 n4 k5 n5 k6 n6 k7 n7 k8 n8 k9 n9) at_ st false 0))=
  some (seenV (.bool true) L P (AM n) pv port (AI k0 n0 k1 n1 1 a 1 c k4 n4 k5 n5 k6 n6 k7 n7 k8 n8 k9 n9) (IntKind.wrap .i64 (Int.add (C7 at_) (IntKind.wrap .i64 o))) (C7 st) false 0,[Fw at_ n,GB L at_ (AP (BE (Ec 2) o)),DD 71 [.int .i64 2, .bool true, .int .u64 a, .int .u64 c] (.cells true P) (.tuple ⟨[.bool true, .int .i64 0]⟩)])/\
 BC (BA (AP (BE (Ec 2) o)) 0 true 0 (mV L P (AM n) pv port (AI k0 n0 k1 n1 1 a 1 c k4 n4 k5 n5 k6 n6 k7 n7 k8 n8 k9 n9) at_ st false 0)):=⟨by kernel_rfl,by unfold BC;kernel_rfl⟩
theorem lu(L P:List Value)(pv:Value)(n:Nat)(port k1 n1 k2 n2 k3 n3 k4 n4 k5 n5 k6 n6 k7 n7 k8 n8 k9 n9 at_ st a:Int):
 Cm (BA (AP DC) 0 true 0 (mV L P (AM n) pv port (AI 1 a k1 n1 k2 n2 k3 n3 k4 n4 k5 n5 k6 n6 k7 n7 k8 n8 k9 n9) at_ st false 0))=
  some (seenV (.bool true) L P (AM n) pv port (AI 1 a k1 n1 k2 n2 k3 n3 k4 n4 k5 n5 k6 n6 k7 n7 k8 n8 k9 n9) at_ (C7 st) true 0,[Fw at_ n,GB L at_ (AP DC)])/\
 BC (BA (AP DC) 0 true 0 (mV L P (AM n) pv port (AI 1 a k1 n1 k2 n2 k3 n3 k4 n4 k5 n5 k6 n6 k7 n7 k8 n8 k9 n9) at_ st false 0)):=⟨by kernel_rfl,by unfold BC;kernel_rfl⟩
end
end Go.Proofs.YtgjflcgmieiafaaDoor
namespace Go.Proofs.YtgjflcgmieiafaaDoor
open Go Go.DI Go.DI.Kit Go.Proofs Go.Cmp
noncomputable section
set_option maxHeartbeats 4000000
theorem fp(L P:List Value)(pv:Value)(n:Nat)(port k0 n0 k1 n1 k2 n2 k3 n3 k4 n4 k5 n5 k6 n6 k7 n7 k8 n8 k9 n9 at_ st imm:Int):
 Cm (BA (AP (DE 11 3 imm)) 0 true 0 (mV L P (AM n) pv port (AI k0 n0 k1 n1 k2 n2 k3 n3 k4 n4 k5 n5 k6 n6 k7 n7 k8 n8 k9 n9) at_ st false 0))=
  some (seenV (.bool true) L P (AM n) pv port (AI k0 n0 k1 n1 k2 n2 1 (Ed imm) k4 n4 k5 n5 k6 n6 k7 n7 k8 n8 k9 n9) (C7 at_) (C7 st) false 0,[Fw at_ n,GB L at_ (AP (DE 11 3 imm))])/\
 BC (BA (AP (DE 11 3 imm)) 0 true 0 (mV L P (AM n) pv port (AI k0 n0 k1 n1 k2 n2 k3 n3 k4 n4 k5 n5 k6 n6 k7 n7 k8 n8 k9 n9) at_ st false 0)):=⟨by kernel_rfl,by unfold BC;kernel_rfl⟩
theorem XQ(L P:List Value)(pv:Value)(n:Nat)(port k0 n0 k1 n1 k2 n2 k3 n3 k4 n4 k5 n5 k6 n6 k7 n7 n8 k9 n9 at_ st:Int):
 Cm (BA (AP (Ba 11 2 8)) 0 true 0 (mV L P (AM n) pv port (AI k0 n0 k1 n1 k2 n2 k3 n3 k4 n4 k5 n5 k6 n6 k7 n7 1 n8 k9 n9) at_ st false 0))=
  some (seenV (.bool true) L P (AM n) pv port (AI k0 n0 k1 n1 1 n8 k3 n3 k4 n4 k5 n5 k6 n6 k7 n7 1 n8 k9 n9) (C7 at_) (C7 st) false 0,[Fw at_ n,GB L at_ (AP (Ba 11 2 8))])/\
 BC (BA (AP (Ba 11 2 8)) 0 true 0 (mV L P (AM n) pv port (AI k0 n0 k1 n1 k2 n2 k3 n3 k4 n4 k5 n5 k6 n6 k7 n7 1 n8 k9 n9) at_ st false 0)):=⟨by kernel_rfl,by unfold BC;kernel_rfl⟩
theorem XR(L P:List Value)(pv:Value)(n:Nat)(port k0 n0 n1 k2 n2 k3 n3 k4 n4 k5 n5 k6 n6 k7 n7 k8 n8 k9 n9 at_ st:Int):
 Cm (BA (AP (Ba 11 6 1)) 0 true 0 (mV L P (AM n) pv port (AI k0 n0 3 n1 k2 n2 k3 n3 k4 n4 k5 n5 k6 n6 k7 n7 k8 n8 k9 n9) at_ st false 0))=
  some (seenV (.bool true) L P (AM n) pv port (AI k0 n0 3 n1 k2 n2 k3 n3 k4 n4 k5 n5 3 n1 k7 n7 k8 n8 k9 n9) (C7 at_) (C7 st) false 0,[Fw at_ n,GB L at_ (AP (Ba 11 6 1))])/\
 BC (BA (AP (Ba 11 6 1)) 0 true 0 (mV L P (AM n) pv port (AI k0 n0 3 n1 k2 n2 k3 n3 k4 n4 k5 n5 k6 n6 k7 n7 k8 n8 k9 n9) at_ st false 0)):=⟨by kernel_rfl,by unfold BC;kernel_rfl⟩
theorem pD(L P:List Value)(pv:Value)(n:Nat)(port k0 n0 k1 n1 k2 n2 k3 n3 k4 n4 k5 n5 k6 n6 k7 n7 k8 n8 k9 n9 at_ st imm:Int):
 Cm (BA (AP (G3 imm)) 0 true 0 (mV L P (AM n) pv port (AI k0 n0 k1 n1 k2 n2 k3 n3 k4 n4 k5 n5 k6 n6 k7 n7 k8 n8 k9 n9) at_ st false 0))=
  some (seenV (.bool true) L P (AM n) pv port (AI 1 (LJ (LJ (Ed imm) 4294967295) 4294967295) k1 n1 k2 n2 k3 n3 k4 n4 k5 n5 k6 n6 k7 n7 k8 n8 k9 n9) (C7 at_) (C7 st) false 0,[Fw at_ n,GB L at_ (AP (G3 imm))])/\
 BC (BA (AP (G3 imm)) 0 true 0 (mV L P (AM n) pv port (AI k0 n0 k1 n1 k2 n2 k3 n3 k4 n4 k5 n5 k6 n6 k7 n7 k8 n8 k9 n9) at_ st false 0)):=⟨by kernel_rfl,by unfold BC;kernel_rfl⟩
theorem fq(L P:List Value)(pv:Value)(n:Nat)(port k0 n0 n1 k2 n2 k3 n3 k4 n4 k5 n5 k6 n6 k7 n7 k8 n8 k9 n9 at_ st:Int):
 Cm (BA (AP (BG 8 7 1 8)) 0 true 0 (mV L P (AM n) pv port (AI k0 n0 2 n1 k2 n2 k3 n3 k4 n4 k5 n5 k6 n6 k7 n7 k8 n8 k9 n9) at_ st false 0))=
  some (seenV (.bool true) L P (AM n) pv port (AI k0 n0 2 n1 k2 n2 k3 n3 k4 n4 k5 n5 k6 n6 3 0 k8 n8 k9 n9) (C7 at_) (C7 st) false 0,[Fw at_ n,GB L at_ (AP (BG 8 7 1 8))])/\
 BC (BA (AP (BG 8 7 1 8)) 0 true 0 (mV L P (AM n) pv port (AI k0 n0 2 n1 k2 n2 k3 n3 k4 n4 k5 n5 k6 n6 k7 n7 k8 n8 k9 n9) at_ st false 0)):=⟨by kernel_rfl,by unfold BC;kernel_rfl⟩
theorem pE(L P:List Value)(pa:Option Addr)(pn pc:Nat)(n:Nat)(port k0 n0 k1 n1 k2 n2 k3 n3 k4 n4 k5 n5 k6 n6 n7 k8 n8 k9 n9 at_ st o N:Int):
 Cm (BA (AP (BG 4 2 7 o)) 0 true N (mV L P (AM n) (.slice pa pn pc) port (AI k0 n0 k1 n1 k2 n2 k3 n3 k4 n4 k5 n5 k6 n6 3 n7 k8 n8 k9 n9) at_ st false 0))=
  some (seenV (.bool true) L P (AM n) (.slice pa pn pc) port (AI k0 n0 k1 n1 1 N k3 n3 k4 n4 k5 n5 k6 n6 3 n7 k8 n8 k9 n9) (C7 at_) (C7 st) false 0,[Fw at_ n,GB L at_ (AP (BG 4 2 7 o)),DD 64 [.slice pa pn pc, .int .i64 (Rl o), .int .i64 4] (.cells true P) (.tuple ⟨[.int .u64 N, .int .i64 0]⟩)])/\
 BC (BA (AP (BG 4 2 7 o)) 0 true N (mV L P (AM n) (.slice pa pn pc) port (AI k0 n0 k1 n1 k2 n2 k3 n3 k4 n4 k5 n5 k6 n6 3 n7 k8 n8 k9 n9) at_ st false 0)):=⟨by kernel_rfl,by unfold BC;kernel_rfl⟩
theorem ft(L P:List Value)(pv:Value)(n:Nat)(port k0 n0 k1 n1 k3 n3 k4 n4 k5 n5 k6 n6 k7 n7 k8 n8 k9 n9 at_ st a:Int):
 Cm (BA (AP (C0 4)) 0 true 0 (mV L P (AM n) pv port (AI k0 n0 k1 n1 1 a k3 n3 k4 n4 k5 n5 k6 n6 k7 n7 k8 n8 k9 n9) at_ st false 0))=
  some (seenV (.bool true) L P (AM n) pv port (AI k0 n0 k1 n1 1 (Kd (Na a) 32) k3 n3 k4 n4 k5 n5 k6 n6 k7 n7 k8 n8 k9 n9) (C7 at_) (C7 st) false 0,[Fw at_ n,GB L at_ (AP (C0 4))])/\
 BC (BA (AP (C0 4)) 0 true 0 (mV L P (AM n) pv port (AI k0 n0 k1 n1 1 a k3 n3 k4 n4 k5 n5 k6 n6 k7 n7 k8 n8 k9 n9) at_ st false 0)):=⟨by kernel_rfl,by unfold BC;kernel_rfl⟩
theorem Ta(L P:List Value)(pv:Value)(n:Nat)(port k0 n0 k1 n1 k3 n3 k4 n4 k5 n5 k6 n6 k7 n7 k8 n8 k9 n9 at_ st a imm o:Int):
 Cm (BA (AP (BE (Cw 3 2 imm) o)) 0 false 0 (mV L P (AM n) pv port (AI k0 n0 k1 n1 1 a k3 n3 k4 n4 k5 n5 k6 n6 k7 n7 k8 n8 k9 n9) at_ st false 0))=
  some (seenV (.bool true) L P (AM n) pv port (AI k0 n0 k1 n1 1 a k3 n3 k4 n4 k5 n5 k6 n6 k7 n7 k8 n8 k9 n9) (C7 at_) (C7 st) false 0,[Fw at_ n,GB L at_ (AP (BE (Cw 3 2 imm) o)),DD 71 [.int .i64 3, .bool true, .int .u64 a, .int .u64 (Ed imm)] (.cells true P) (.tuple ⟨[.bool false, .int .i64 0]⟩)])/\
 BC (BA (AP (BE (Cw 3 2 imm) o)) 0 false 0 (mV L P (AM n) pv port (AI k0 n0 k1 n1 1 a k3 n3 k4 n4 k5 n5 k6 n6 k7 n7 k8 n8 k9 n9) at_ st false 0)):=⟨by kernel_rfl,by unfold BC;kernel_rfl⟩
theorem Tb(L P:List Value)(pv:Value)(n:Nat)(port k0 n0 k1 n1 k3 n3 k4 n4 k5 n5 k6 n6 k7 n7 k8 n8 k9 n9 at_ st a imm o:Int):
 Cm (BA (AP (BE (Cw 5 2 imm) o)) 0 true 0 (mV L P (AM n) pv port (AI k0 n0 k1 n1 1 a k3 n3 k4 n4 k5 n5 k6 n6 k7 n7 k8 n8 k9 n9) at_ st false 0))=
  some (seenV (.bool true) L P (AM n) pv port (AI k0 n0 k1 n1 1 a k3 n3 k4 n4 k5 n5 k6 n6 k7 n7 k8 n8 k9 n9) (IntKind.wrap .i64 (Int.add (C7 at_) (IntKind.wrap .i64 o))) (C7 st) false 0,[Fw at_ n,GB L at_ (AP (BE (Cw 5 2 imm) o)),DD 71 [.int .i64 5, .bool true, .int .u64 a, .int .u64 (Ed imm)] (.cells true P) (.tuple ⟨[.bool true, .int .i64 0]⟩)])/\
 BC (BA (AP (BE (Cw 5 2 imm) o)) 0 true 0 (mV L P (AM n) pv port (AI k0 n0 k1 n1 1 a k3 n3 k4 n4 k5 n5 k6 n6 k7 n7 k8 n8 k9 n9) at_ st false 0)):=⟨by kernel_rfl,by unfold BC;kernel_rfl⟩
theorem Tc(L P:List Value)(pv:Value)(n:Nat)(port k0 n0 k1 n1 k2 n2 k3 n3 k4 n4 k5 n5 k6 n6 k7 n7 k9 n9 at_ st a imm o:Int):
 Cm (BA (AP (BE (Cw 5 8 imm) o)) 0 false 0 (mV L P (AM n) pv port (AI k0 n0 k1 n1 k2 n2 k3 n3 k4 n4 k5 n5 k6 n6 k7 n7 1 a k9 n9) at_ st false 0))=
  some (seenV (.bool true) L P (AM n) pv port (AI k0 n0 k1 n1 k2 n2 k3 n3 k4 n4 k5 n5 k6 n6 k7 n7 1 a k9 n9) (C7 at_) (C7 st) false 0,[Fw at_ n,GB L at_ (AP (BE (Cw 5 8 imm) o)),DD 71 [.int .i64 5, .bool true, .int .u64 a, .int .u64 (Ed imm)] (.cells true P) (.tuple ⟨[.bool false, .int .i64 0]⟩)])/\
 BC (BA (AP (BE (Cw 5 8 imm) o)) 0 false 0 (mV L P (AM n) pv port (AI k0 n0 k1 n1 k2 n2 k3 n3 k4 n4 k5 n5 k6 n6 k7 n7 1 a k9 n9) at_ st false 0)):=⟨by kernel_rfl,by unfold BC;kernel_rfl⟩
theorem Ro(L P:List Value)(pv:Value)(n:Nat)(port k0 n0 k1 n1 k2 n2 k3 n3 k4 n4 k5 n5 k6 n6 k7 n7 k9 n9 at_ st a imm o:Int):
 Cm (BA (AP (BE (Cw 10 8 imm) o)) 0 true 0 (mV L P (AM n) pv port (AI k0 n0 k1 n1 k2 n2 k3 n3 k4 n4 k5 n5 k6 n6 k7 n7 1 a k9 n9) at_ st false 0))=
  some (seenV (.bool true) L P (AM n) pv port (AI k0 n0 k1 n1 k2 n2 k3 n3 k4 n4 k5 n5 k6 n6 k7 n7 1 a k9 n9) (IntKind.wrap .i64 (Int.add (C7 at_) (IntKind.wrap .i64 o))) (C7 st) false 0,[Fw at_ n,GB L at_ (AP (BE (Cw 10 8 imm) o)),DD 71 [.int .i64 10, .bool true, .int .u64 a, .int .u64 (Ed imm)] (.cells true P) (.tuple ⟨[.bool true, .int .i64 0]⟩)])/\
 BC (BA (AP (BE (Cw 10 8 imm) o)) 0 true 0 (mV L P (AM n) pv port (AI k0 n0 k1 n1 k2 n2 k3 n3 k4 n4 k5 n5 k6 n6 k7 n7 1 a k9 n9) at_ st false 0)):=⟨by kernel_rfl,by unfold BC;kernel_rfl⟩
theorem Td(L P:List Value)(pv:Value)(n:Nat)(port k0 n0 k1 n1 k3 n3 k4 n4 k5 n5 k6 n6 k7 n7 k8 n8 k9 n9 at_ st a imm o:Int):
 Cm (BA (AP (BE (Cw 2 2 imm) o)) 0 false 0 (mV L P (AM n) pv port (AI k0 n0 k1 n1 1 a k3 n3 k4 n4 k5 n5 k6 n6 k7 n7 k8 n8 k9 n9) at_ st false 0))=
  some (seenV (.bool true) L P (AM n) pv port (AI k0 n0 k1 n1 1 a k3 n3 k4 n4 k5 n5 k6 n6 k7 n7 k8 n8 k9 n9) (C7 at_) (C7 st) false 0,[Fw at_ n,GB L at_ (AP (BE (Cw 2 2 imm) o)),DD 71 [.int .i64 2, .bool true, .int .u64 a, .int .u64 (Ed imm)] (.cells true P) (.tuple ⟨[.bool false, .int .i64 0]⟩)])/\
 BC (BA (AP (BE (Cw 2 2 imm) o)) 0 false 0 (mV L P (AM n) pv port (AI k0 n0 k1 n1 1 a k3 n3 k4 n4 k5 n5 k6 n6 k7 n7 k8 n8 k9 n9) at_ st false 0)):=⟨by kernel_rfl,by unfold BC;kernel_rfl⟩
theorem Te(L P:List Value)(pv:Value)(n:Nat)(port k0 n0 k1 n1 k4 n4 k5 n5 k6 n6 k7 n7 k8 n8 k9 n9 at_ st a c o:Int):
 Cm (BA (AP (BE (Ec 10) o)) 0 true 0 (mV L P (AM n) pv port (AI k0 n0 k1 n1 1 a 1 c k4 n4 k5 n5 k6 n6 k7 n7 k8 n8 k9 n9) at_ st false 0))=
  some (seenV (.bool true) L P (AM n) pv port (AI k0 n0 k1 n1 1 a 1 c k4 n4 k5 n5 k6 n6 k7 n7 k8 n8 k9 n9) (IntKind.wrap .i64 (Int.add (C7 at_) (IntKind.wrap .i64 o))) (C7 st) false 0,[Fw at_ n,GB L at_ (AP (BE (Ec 10) o)),DD 71 [.int .i64 10, .bool true, .int .u64 a, .int .u64 c] (.cells true P) (.tuple ⟨[.bool true, .int .i64 0]⟩)])/\
 BC (BA (AP (BE (Ec 10) o)) 0 true 0 (mV L P (AM n) pv port (AI k0 n0 k1 n1 1 a 1 c k4 n4 k5 n5 k6 n6 k7 n7 k8 n8 k9 n9) at_ st false 0)):=⟨by kernel_rfl,by unfold BC;kernel_rfl⟩
theorem XS(L P:List Value)(pv:Value)(n:Nat)(port k0 n0 k1 n1 k4 n4 k5 n5 k6 n6 k7 n7 k8 n8 k9 n9 at_ st a c o:Int):
 Cm (BA (AP (BE (Ec 2) o)) 0 false 0 (mV L P (AM n) pv port (AI k0 n0 k1 n1 1 a 1 c k4 n4 k5 n5 k6 n6 k7 n7 k8 n8 k9 n9) at_ st false 0))=
  some (seenV (.bool true) L P (AM n) pv port (AI k0 n0 k1 n1 1 a 1 c k4 n4 k5 n5 k6 n6 k7 n7 k8 n8 k9 n9) (C7 at_) (C7 st) false 0,[Fw at_ n,GB L at_ (AP (BE (Ec 2) o)),DD 71 [.int .i64 2, .bool true, .int .u64 a, .int .u64 c] (.cells true P) (.tuple ⟨[.bool false, .int .i64 0]⟩)])/\
 BC (BA (AP (BE (Ec 2) o)) 0 false 0 (mV L P (AM n) pv port (AI k0 n0 k1 n1 1 a 1 c k4 n4 k5 n5 k6 n6 k7 n7 k8 n8 k9 n9) at_ st false 0)):=⟨by kernel_rfl,by unfold BC;kernel_rfl⟩
theorem fu(L P:List Value)(pv:Value)(n:Nat)(port k0 n0 k1 n1 k2 n2 k3 n3 k4 n4 k5 n5 k6 n6 k7 n7 k8 n8 k9 n9 at_ st l h:Int):
 Cm (BA (AP ⟨24,3,0,0,l⟩) h true 0 (mV L P (AM n) pv port (AI k0 n0 k1 n1 k2 n2 k3 n3 k4 n4 k5 n5 k6 n6 k7 n7 k8 n8 k9 n9) at_ st false 0))=
  some (seenV (.bool true) L P (AM n) pv port (AI k0 n0 k1 n1 k2 n2 1 (eu (IntKind.wrap .u64 (IntKind.wrap .u32 l)) (NJ (IntKind.wrap .u64 (IntKind.wrap .u32 h)) 32)) k4 n4 k5 n5 k6 n6 k7 n7 k8 n8 k9 n9) (IntKind.wrap .i64 (Int.add at_ 2)) (C7 st) false 0,[Fw at_ n,GB L at_ (AP ⟨24,3,0,0,l⟩),Fw (C7 at_) n,H.ldOk (.cells true L) (Nat.add (Nat.add 0 (Nat.mul (C7 at_).toNat 5)) 4) false 1 (.int .i32 h)])/\
 BC (BA (AP ⟨24,3,0,0,l⟩) h true 0 (mV L P (AM n) pv port (AI k0 n0 k1 n1 k2 n2 k3 n3 k4 n4 k5 n5 k6 n6 k7 n7 k8 n8 k9 n9) at_ st false 0)):=⟨by kernel_rfl,by unfold BC;kernel_rfl⟩
end
end Go.Proofs.YtgjflcgmieiafaaDoor
