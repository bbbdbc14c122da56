/- CompileMore answers true: rules behind one that matches say nothing, for any table, other table, packet and port of the stated bulk. Conditions: those of the given row and its card (the variable insn.sizes is laid as its initialiser says; bulk at most 1048576). -/
import Derived.Test.YtgjflcgmieiafaaGreatDoorN03
import Derived.Carry
import Derived.ChangeArms
import Derived.OpenShut
import Derived.ChangeShapes
import Derived.Test.YtgjflcgmieiafaaGreatDoorRows
import Derived.Test.YtgjflcgmieiafaaGreatDoorN02
set_option linter.all false
set_option linter.unusedVariables false
set_option linter.unusedSimpArgs false
namespace Go.Proofs.YtgjflcgmieiafaaGreatDoor
open Go Go.DI Go.DI.Kit Go.Proofs Go.Cmp
noncomputable section
theorem wN:Tryz.prog.funcs[23]?=some Tryz.f23:=by kernel_rfl
theorem wO:Tryz.f23.body=some (AM Tryz.f23):=by kernel_rfl
theorem wP:Tryz.f23.ntmps=133:=by kernel_rfl
theorem n21{a b c:Value}:max [a,b,c].length Tryz.f23.ntmps=133:=by rw[wP];rfl
theorem wQ:I5 Tryz.prog 23 CB=true:=by kernel_rfl
theorem X6{α:Type}(cf:Y.CF α)(L:Y.LK α)(k:Nat)(t:AF)(m:Mem)(q:Y.ExK α):Y.codeF (Y.loopC Ek 0) Tryz.prog kp 1 (Y.cfT Tryz.prog cf) L 133 k t m q=Y.opsF Pt Tryz.prog kp 1 (Y.cfT Tryz.prog cf) 133 Pt t m λt m=>q .normal t m:=by kernel_rfl
theorem X7{α:Type}(cf:Y.CF α)(L:Y.LK α)(k:Nat)(t:AF)(m:Mem)(q:Y.ExK α):Y.codeF (Y.loopC Ek 1) Tryz.prog kp 1 (Y.cfT Tryz.prog cf) L 133 k t m q=Y.opsF Pu Tryz.prog kp 1 (Y.cfT Tryz.prog cf) 133 Pu t m λt m=>q .normal t m:=by kernel_rfl
theorem X8{α:Type}(cf:Y.CF α)(L:Y.LK α)(k:Nat)(t:AF)(m:Mem)(q:Y.ExK α):Y.codeF (Y.loopC Ek 2) Tryz.prog kp 1 (Y.cfT Tryz.prog cf) L 133 k t m q=Y.opsF Pv Tryz.prog kp 1 (Y.cfT Tryz.prog cf) 133 Pv t m λt m=>q .normal t m:=by kernel_rfl
theorem X9{α:Type}(cf:Y.CF α)(L:Y.LK α)(k:Nat)(t:AF)(m:Mem)(q:Y.ExK α):Y.codeF (Y.loopC Ek 3) Tryz.prog kp 1 (Y.cfT Tryz.prog cf) L 133 k t m q=Y.opsF Pw Tryz.prog kp 1 (Y.cfT Tryz.prog cf) 133 Pw t m λt m=>q .normal t m:=by kernel_rfl
structure Fb(t:A8):Prop where
 kind:t.kind=1\/t.kind=2\/t.kind=3\/t.kind=4
 pos:BY t=true->0<=t.pos/\t.pos<=255
 size:BY t=true->Uo t.size
 mask:0<=t.mask/\t.mask<18446744073709551616
 lo:0<=t.lo/\t.lo<18446744073709551616
 hi:0<=t.hi/\t.hi<18446744073709551616
def TZ(t:A8):Int:=if BY t=true then B2 t.size else 0
abbrev kt(o:C1)(k j:Nat)(fr:AF)(M:Mem):Option (Value×Mem):=
 Y.kont Tryz.prog kp 1 (Y.cfT Tryz.prog (Y.cfOf (AJ Tryz.prog kp 1 o k))) (Gj (Y.lpOf Tryz.prog kp 1 (AJ Tryz.prog kp 1 o k) 133)) 133 k Ek j (Y.retF Tryz.prog Tryz.f23 λv m=>some (v,m)) .normal fr M
section
variable{K:CH}{mp:Nat}{rows:List BB}{AL:List (Nat×Nat)}{fr:Nat->Prop}{M:Mem}
variable{o:C1}{k:Nat}
theorem St.lab0(h:St K mp rows AL fr M){l:Nat}(hl:fr l):St K mp (rows++ [lab l]) AL (λj=>fr j/\j≠l) M:=by
 obtain⟨f,h⟩:=h
 obtain⟨g0,g1,g2,g3⟩:=h.free l hl
 refine⟨f,?_,h.glob,h.pos,h.nod,λj hj=>?_,λj q hq=>?_,λr hr h0=>?_⟩
 ·have e1:AL.map (Pp (rows++ [lab l]))=AL.map (Pp rows):=by
   refine List.map_congr_left λy hy=>?_;simp only[Pp,KF rows g0,Ku rows _ g0];rw[if_neg (g2 y hy)]
  rw[e1,Og f rows g0];exact h.hp
 ·obtain⟨i0,i1,i2,i3⟩:=h.free j hj.1;refine⟨i0,i1,i2,λr hr=>?_⟩;rcases List.mem_append.1 hr with hr|hr
  ·exact i3 r hr
  ·obtain rfl:=List.mem_singleton.1 hr;exact⟨by show 0≠j;omega,λe=>hj.2 e.symm⟩
 ·rw[KF rows g0,if_neg (by rintro rfl;rw[g1]at hq;cases hq)];exact h.sett j q hq
 ·rcases List.mem_append.1 hr with hr|hr
  ·exact h.known r hr h0
  ·obtain rfl:=List.mem_singleton.1 hr;exact absurd h0 (Nat.lt_irrefl 0)
section
variable{t:A8}{lp lf ol tb n:Nat}{tp:Int}
theorem gR(hO:Gu o)(hk:100000+50<=k)(htb:K tb=some (.cells true (AX t)))(hlp:(lp,lf)∈AL)(hl:rows.length+20<=100000)(hg:fr (n+2))(h:St K mp rows ((ol,n+1)::AL) fr M):
  ∃M',(∀(tp:Int) (x:Nat->Value),kt o k 3 (AB 133 (up x [(0, .pointer (some ⟨mp,0,none⟩)),(2, .pointer (some ⟨lp,0,none⟩)),(4, .pointer (some ⟨tb,0,none⟩)),(6, .pointer (some ⟨ol,0,none⟩)),(7, .int .u64 tp),(105, .bool t.neg)])) M=some (CB,M'))/\St K mp (rows++Cmp.endS t (n+1) (n+2) lf) AL (λj=>fr j/\j≠n+2) M':=by
 by_cases hn:t.neg=true
 ·obtain⟨M1,c1,h1⟩:=HA (k:=k) hO (by omega) (by omega) h;obtain⟨M2,c2,h2⟩:=KD (k:=k) hO (by omega) (by simp[A9];omega) (List.mem_cons_of_mem _ hlp) h1;obtain⟨M3,c3,M4,c4,h4⟩:=MJ (k:=k) hO (by omega) (by simp[A9];omega) h2;have h5:=h4.lab0 hg;refine⟨M4,λtp x=>?_,by rw[Cmp.endS,if_pos hn];simpa only[List.append_assoc,List.cons_append,List.nil_append]using h5⟩;refine Eq.trans (Zk ..) ?_;rw[hn,AH];refine step c1 ?_;refine step c2 ?_;refine step c3 ?_;refine step c4 ?_;rfl
 ·have h0:=h.label hg;obtain⟨M1,c1,h1⟩:=KD (k:=k) hO (by omega) (by omega) (List.mem_cons_self ..) h0;have h1:=h1.perm (List.Perm.swap _ _ _);have hb:=h1.box (.cells true [ptr ol]);obtain⟨M2,c2,h2⟩:=MK (k:=k) (hO.off 25 (by decide)) (by omega) (by simp;omega) hb.1 (BM ..);have h2:=h2.weak h.glb hb.2;obtain⟨M3,c3,h3⟩:=HA (k:=k) hO (by omega) (by simp;omega) h2;obtain⟨M4,c4,h4⟩:=KD (k:=k) hO (by omega) (by simp[A9];omega) (List.mem_cons_of_mem _ (List.mem_cons_of_mem _ hlp)) h3;have h4:=h4.perm (List.Perm.swap _ _ _);have hb4:=h4.box (.cells true [ptr M.size]);obtain⟨M5,c5,h5⟩:=MK (k:=k) (hO.off 25 (by decide)) (by omega) (by simp[A9];omega) hb4.1 (BM ..);have h5:=(h5.weak h.glb hb4.2).perm (List.Perm.swap _ _ _);have hb5:=h5.box (.cells true [ptr ol,ptr M.size]);obtain⟨M6,c6,h6⟩:=Kr (k:=k) (ps:= [(ol,n+1),(M.size,n+2)]) (hO.off 26 (by decide)) (by simp[A9];omega) (by omega) (by simp) (BM ..) hb5.1;have h6:=h6.weak h.glb hb5.2;refine⟨M6,λtp x=>?_,by rw[Cmp.endS,if_neg hn];simpa only[List.append_assoc,List.cons_append,List.nil_append]using h6⟩;refine Eq.trans (Zk ..) ?_;rw[Bool.eq_false_iff.2 hn,BH];refine step c1 ?_;refine step c2 ?_;refine step c3 ?_;refine step c4 ?_;refine step c5 ?_;refine step c6 ?_;rfl
def Y5(t:A8)(out:Nat):List BB:=if BY t=false\/t.hi≠B2 t.size then Di 2 t.hi out else []
def db(t:A8)(out:Nat):List BB:=if 0<t.lo then Di 10 t.lo out else []
theorem RO(op n:Int)(out:Nat):(Di op n out).length<=3:=by unfold Di;split<;>simp
theorem VO(t:A8)(out:Nat):(Y5 t out).length<=3:=by
 have:=RO 2 t.hi out
 unfold Y5;split<;>simp;omega
theorem VP(t:A8)(out:Nat):(db t out).length<=3:=by
 have:=RO 10 t.lo out
 unfold db;split<;>simp;omega
abbrev ml(o:C1)(k j:Nat)(fr:AF)(M:Mem):Option (Value×Mem):=
 Gj (Y.lpOf Tryz.prog kp 1 (AJ Tryz.prog kp 1 o k) 133) (λt m q=>Y.codeF (Y.loopC Ek j) Tryz.prog kp 1 (Y.cfT Tryz.prog (Y.cfOf (AJ Tryz.prog kp 1 o k))) (Gj (Y.lpOf Tryz.prog kp 1 (AJ Tryz.prog kp 1 o k) 133)) 133 k t m q) (Y.loopC Ek j) k fr M
  (Y.kont Tryz.prog kp 1 (Y.cfT Tryz.prog (Y.cfOf (AJ Tryz.prog kp 1 o k))) (Gj (Y.lpOf Tryz.prog kp 1 (AJ Tryz.prog kp 1 o k) 133)) 133 k Ek j (Y.retF Tryz.prog Tryz.f23 λv m=>some (v,m)))
theorem RP(hO:Gu o)(hk:100000+50<=k)(htb:K tb=some (.cells true (AX t)))(hlp:(lp,lf)∈AL)(hl:rows.length+20<=100000)(hg:fr (n+2))(h:St K mp rows ((ol,n+1)::AL) fr M):
  ∃M',(∀(tp:Int) (x:Nat->Value),ml o k 3 (AB 133 (up x [(0, .pointer (some ⟨mp,0,none⟩)),(2, .pointer (some ⟨lp,0,none⟩)),(4, .pointer (some ⟨tb,0,none⟩)),(6, .pointer (some ⟨ol,0,none⟩)),(7, .int .u64 tp)])) M=some (CB,M'))/\St K mp (rows++Cmp.endS t (n+1) (n+2) lf) AL (λj=>fr j/\j≠n+2) M':=by
 have gb:=h.get htb
 obtain⟨M',c,h'⟩:=gR hO hk htb hlp hl hg h
 refine⟨M',λtp x=>?_,h'⟩
 refine Eq.trans (BG _ _ _ (by kernel_rfl) _ _ _ _) ?_
 refine Eq.trans (X9 ..) ?_
 refine Eq.trans (gS ..) ?_
 rw[gb,AR,show Y.nthL (AX t) 0=some (.bool t.neg)from rfl,BN,HS]
 exact c ..
theorem gT(hO:Gu o)(hk:100000+50<=k)(htb:K tb=some (.cells true (AX t)))(hlp:(lp,lf)∈AL)(ht:Fb t)(hl:rows.length+30<=100000)(hg:fr (n+2))(h:St K mp rows ((ol,n+1)::AL) fr M):
  ∃M',(∀(tp:Int) (x:Nat->Value),kt o k 2 (AB 133 (up x [(0, .pointer (some ⟨mp,0,none⟩)),(2, .pointer (some ⟨lp,0,none⟩)),(4, .pointer (some ⟨tb,0,none⟩)),(6, .pointer (some ⟨ol,0,none⟩)),(7, .int .u64 tp),(99, .bool (decide (BY t=false\/t.hi≠B2 t.size)))])) M=some (CB,M'))/\St K mp (rows++(Y5 t (n+1)++Cmp.endS t (n+1) (n+2) lf)) AL (λj=>fr j/\j≠n+2) M':=by
 have gb:=h.get htb
 have h3:=VO t (n+1)
 by_cases hc:BY t=false\/t.hi≠B2 t.size
 ·obtain⟨M1,c1,h1⟩:=VJ (k:=k) (op:=2) (n:=t.hi) hO (by omega) (by omega) (by simp) ht.hi.1 ht.hi.2 (List.mem_cons_self ..) h;have e:Y5 t (n+1)=Di 2 t.hi (n+1):=if_pos hc;rw[←e]at h1;obtain⟨M2,c2,h2⟩:=RP hO hk htb hlp (by rw[List.length_append];omega) hg h1;refine⟨M2,λtp x=>?_,by rw[←List.append_assoc];exact h2⟩;refine Eq.trans (Zl ..) ?_;rw[decide_eq_true hc,AH,gb,AR,show Y.nthL (AX t) 6=some (.int .u64 t.hi)from rfl,BN,BF,CN,AH];refine step c1 ?_;exact c2 ..
 ·obtain⟨M2,c2,h2⟩:=RP hO hk htb hlp (by omega) hg h;have e:Y5 t (n+1)= []:=if_neg hc;refine⟨M2,λtp x=>?_,by rw[e,List.nil_append];exact h2⟩;refine Eq.trans (Zl ..) ?_;rw[decide_eq_false hc,BH];exact c2 ..
theorem RQ(hO:Gu o)(hk:100000+50<=k)(htb:K tb=some (.cells true (AX t)))(hlp:(lp,lf)∈AL)(ht:Fb t)(hl:rows.length+30<=100000)(hg:fr (n+2))(h:St K mp rows ((ol,n+1)::AL) fr M):
  ∃M',(∀(x:Nat->Value),ml o k 2 (AB 133 (up x [(0, .pointer (some ⟨mp,0,none⟩)),(2, .pointer (some ⟨lp,0,none⟩)),(4, .pointer (some ⟨tb,0,none⟩)),(6, .pointer (some ⟨ol,0,none⟩)),(7, .int .u64 (TZ t))])) M=some (CB,M'))/\St K mp (rows++(Y5 t (n+1)++Cmp.endS t (n+1) (n+2) lf)) AL (λj=>fr j/\j≠n+2) M':=by
 have gb:=h.get htb
 obtain⟨M',c,h'⟩:=gT hO hk htb hlp ht hl hg h
 refine⟨M',λx=>?_,h'⟩
 refine Eq.trans (BG _ _ _ (by kernel_rfl) _ _ _ _) ?_
 refine Eq.trans (X8 ..) ?_
 refine Eq.trans (gU ..) ?_
 rw[gb,AR,show Y.nthL (AX t) 1=some (.int .i64 t.kind)from rfl,BN,BF,CN,AH]
 by_cases h1:t.kind=1
 ·have e:decide (BY t=false\/t.hi≠B2 t.size)=true:=by simp[BY,h1]
  rw[e]at c;rw[Bp h1,AH];exact c ..
 ·rw[Bs h1,BH,AR,show Y.nthL (AX t) 1=some (.int .i64 t.kind)from rfl,BN,BF,CN,AH];by_cases h2:t.kind=2
  ·have e:decide (BY t=false\/t.hi≠B2 t.size)=true:=by simp[BY,h2]
   rw[e]at c;rw[Bp h2,AH];exact c ..
  ·have hb:BY t=true:=by
    rcases ht.kind with e|e|e|e
    ·exact absurd e h1
    ·exact absurd e h2
    ·simp[BY,e]
    ·simp[BY,e]
   have et:TZ t=B2 t.size:=if_pos hb;rw[Bs h2,BH,AR,show Y.nthL (AX t) 6=some (.int .u64 t.hi)from rfl,BN,BF,CN,AH,HU,et];by_cases h3:t.hi=B2 t.size
   ·have e:decide (BY t=false\/t.hi≠B2 t.size)=false:=by simp[hb,h3]
    rw[e]at c;rw[Bp h3,AH];exact c ..
   ·have e:decide (BY t=false\/t.hi≠B2 t.size)=true:=by simp[h3]
    rw[e]at c;rw[Bs h3,BH];exact c ..
theorem gV(hO:Gu o)(hk:100000+50<=k)(htb:K tb=some (.cells true (AX t)))(hlp:(lp,lf)∈AL)(ht:Fb t)(hl:rows.length+40<=100000)(hg:fr (n+2))(h:St K mp rows ((ol,n+1)::AL) fr M):
  ∃M',(∀(x:Nat->Value),kt o k 1 (AB 133 (up x [(0, .pointer (some ⟨mp,0,none⟩)),(2, .pointer (some ⟨lp,0,none⟩)),(4, .pointer (some ⟨tb,0,none⟩)),(6, .pointer (some ⟨ol,0,none⟩)),(7, .int .u64 (TZ t)),(81, .bool (decide (0<t.lo)))])) M=some (CB,M'))/\St K mp (rows++(db t (n+1)++(Y5 t (n+1)++Cmp.endS t (n+1) (n+2) lf))) AL (λj=>fr j/\j≠n+2) M':=by
 have gb:=h.get htb
 have h3:=VP t (n+1)
 by_cases hc:0<t.lo
 ·obtain⟨M1,c1,h1⟩:=VJ (k:=k) (op:=10) (n:=t.lo) hO (by omega) (by omega) (by simp) ht.lo.1 ht.lo.2 (List.mem_cons_self ..) h;have e:db t (n+1)=Di 10 t.lo (n+1):=if_pos hc;rw[←e]at h1;obtain⟨M2,c2,h2⟩:=RQ hO hk htb hlp ht (by rw[List.length_append];omega) hg h1;refine⟨M2,λx=>?_,by rw[←List.append_assoc];exact h2⟩;refine Eq.trans (Zm ..) ?_;rw[decide_eq_true hc,AH,gb,AR,show Y.nthL (AX t) 5=some (.int .u64 t.lo)from rfl,BN,BF,CN,AH];refine step c1 ?_;exact c2 ..
 ·obtain⟨M2,c2,h2⟩:=RQ hO hk htb hlp ht (by omega) hg h;have e:db t (n+1)= []:=if_neg hc;refine⟨M2,λx=>?_,by rw[e,List.nil_append];exact h2⟩;refine Eq.trans (Zm ..) ?_;rw[decide_eq_false hc,BH];exact c2 ..
theorem Mt(hO:Gu o)(hk:100000+50<=k)(htb:K tb=some (.cells true (AX t)))(hlp:(lp,lf)∈AL)(ht:Fb t)(hl:rows.length+40<=100000)(hg:fr (n+2))(h:St K mp rows ((ol,n+1)::AL) fr M):
  ∃M',(∀(x:Nat->Value),ml o k 1 (AB 133 (up x [(0, .pointer (some ⟨mp,0,none⟩)),(2, .pointer (some ⟨lp,0,none⟩)),(4, .pointer (some ⟨tb,0,none⟩)),(6, .pointer (some ⟨ol,0,none⟩)),(7, .int .u64 (TZ t))])) M=some (CB,M'))/\St K mp (rows++(db t (n+1)++(Y5 t (n+1)++Cmp.endS t (n+1) (n+2) lf))) AL (λj=>fr j/\j≠n+2) M':=by
 have gb:=h.get htb
 obtain⟨M',c,h'⟩:=gV hO hk htb hlp ht hl hg h
 refine⟨M',λx=>?_,h'⟩
 refine Eq.trans (BG _ _ _ (by kernel_rfl) _ _ _ _) ?_
 refine Eq.trans (X7 ..) ?_
 refine Eq.trans (gW ..) ?_
 rw[gb,AR,show Y.nthL (AX t) 5=some (.int .u64 t.lo)from rfl,BN,BF,CN,AH,HU]
 have h0:=ht.lo.1
 by_cases h1:t.lo=0
 ·rw[decide_eq_false (by omega)]at c;rw[Bp h1,AH];exact c ..
 ·rw[decide_eq_true (by omega)]at c;rw[Bs h1,BH];exact c ..
theorem Xa(t:A8):(Dm t).length<=4:=by unfold Dm;(repeat' split)<;>simp
theorem gX(hO:Gu o)(hk:100000+50<=k)(htb:K tb=some (.cells true (AX t)))(hlp:(lp,lf)∈AL)(ht:Fb t)(hl:rows.length+50<=100000)(hg:fr (n+2))(h:St K mp rows ((ol,n+1)::AL) fr M):
  ∃M',(∀(x:Nat->Value),kt o k 0 (AB 133 (up x [(0, .pointer (some ⟨mp,0,none⟩)),(2, .pointer (some ⟨lp,0,none⟩)),(4, .pointer (some ⟨tb,0,none⟩)),(6, .pointer (some ⟨ol,0,none⟩)),(7, .int .u64 0),(46, .bool (BY t))])) M=some (CB,M'))/\St K mp (rows++(Dm t++(db t (n+1)++(Y5 t (n+1)++Cmp.endS t (n+1) (n+2) lf)))) AL (λj=>fr j/\j≠n+2) M':=by
 have gb:=h.get htb
 cases hb:BY t with
 |false=>
  have e:Dm t= []:=by unfold Dm;rw[hb];rfl
  have et:TZ t=0:=by unfold TZ;rw[hb];rfl
  obtain⟨M2,c2,h2⟩:=Mt hO hk htb hlp ht (by omega) hg h;rw[et]at c2;refine⟨M2,λx=>?_,by rw[e,List.nil_append];exact h2⟩;refine Eq.trans (T0 ..) ?_;rw[BH];exact c2 ..
 |true=>
  have hz:=ht.size hb;have et:TZ t=B2 t.size:=if_pos hb;obtain⟨M1,c1,x1⟩:=hO.most hz k M (by omega) h.top (by have:=h.lt h.glb;omega) (h.get h.glb);have h1:=h.ext x1;have g1:=h1.get htb;obtain⟨sw,hsw⟩:∃sw:List BB,sw=if 1<t.size then [ins (Ci t.size) 0]else []:=⟨_,rfl⟩;obtain⟨mk,hmk⟩:∃mk:List BB,mk=if t.mask=B2 t.size then []else if t.mask<2147483648 then [ins (DU 5 2 t.mask) 0]else [ins (Bq t.mask) 0,ins (DG t.mask) 0,ins (Bj 5 2 3) 0]:=⟨_,rfl⟩;have e:Dm t=sw++mk:=by unfold Dm;rw[if_pos hb,hsw,hmk]
  have hsl:sw.length<=1:=by rw[hsw];split<;>simp
  have tail:∀{rows:List BB} {M1:Mem},rows.length+45<=100000->St K mp rows ((ol,n+1)::AL) fr M1->∃M2,(t.mask=B2 t.size->M2=M1)/\(t.mask≠B2 t.size->∃M3,AJ Tryz.prog kp 1 o k 41 [.int .u64 t.mask] M1=some (.bool (decide (t.mask<2147483648)),M3)/\M3.get tb= .cells true (AX t)/\
    (t.mask<2147483648->AJ Tryz.prog kp 1 o k 36 [ptr mp, .int .i64 5, .int .u8 2, .int .i32 t.mask] M3=some (CB,M2))/\
    (¬t.mask<2147483648->∃M4,AJ Tryz.prog kp 1 o k 42 [ptr mp, .int .u8 3, .int .u64 t.mask] M3=some (CB,M4)/\AJ Tryz.prog kp 1 o k 19 [ptr mp, .int .i64 5, .int .u8 2, .int .u8 3] M4=some (CB,M2)))/\
    St K mp (rows++mk) ((ol,n+1)::AL) fr M2:=by
   intro rows M1 hl h1;by_cases hm:t.mask=B2 t.size
   ·exact⟨M1,λ_=>rfl,λhn=>absurd hm hn,by rw[hmk,if_pos hm,List.append_nil];exact h1⟩
   ·obtain⟨M3,c3,x3⟩:=hO.small t.mask k M1 (by omega) h1.top (by have:=h1.lt h1.glb;omega) (h1.get h1.glb);have h3:=h1.ext x3;by_cases hs:t.mask<2147483648
    ·obtain⟨M2,c2,h2⟩:=Pm (k:=k) (op:=5) (d:=2) (n:=t.mask) hO (by omega) (by omega) (by simp) h3;exact⟨M2,λhn=>absurd hn hm,λ_=>⟨M3,c3,h3.get htb,λ_=>c2,λhn=>absurd hs hn⟩,by rw[hmk,if_neg hm,if_pos hs];exact h2⟩
    ·obtain⟨M4,c4,h4⟩:=RD (k:=k - 2) (d:=3) (n:=t.mask) (hO.off 35 (by decide)) (hO.off 42 (by decide)) (by omega) h3 (hO.makes (by omega) La.const);rw[show k - 2+2=k by omega]at c4;obtain⟨M2,c2,h2⟩:=P9 (k:=k) (op:=5) (d:=2) (s:=3) hO (by omega) (by simp;omega) (by simp) h4;refine⟨M2,λhn=>absurd hn hm,λ_=>⟨M3,c3,h3.get htb,λhn=>absurd hn hs,λ_=>⟨M4,c4,c2⟩⟩,?_⟩;rw[hmk,if_neg hm,if_neg hs];rw[List.append_assoc,TR,Z8 ht.mask.1 ht.mask.2]at h2;exact h2
  by_cases hs:1<t.size
  ·have hz2:t.size=2\/t.size=4\/t.size=8:=by rcases hz with e|e|e|e<;>omega
   obtain⟨M2,c2,h2⟩:=Kt (k:=k) hO (by omega) (by omega) (La.swap hz2) h1;have g2:=h2.get htb;have hsw:sw= [ins (Ci t.size) 0]:=by rw[hsw,if_pos hs]
   rw[←hsw]at h2;obtain⟨M5,q1,q2,h5⟩:=tail (by rw[List.length_append];omega) h2;have hml:mk.length<=3:=by rw[hmk];(repeat' split)<;>simp
   obtain⟨M6,c6,h6⟩:=Mt hO hk htb hlp ht (by rw[List.length_append,List.length_append];omega) hg h5;rw[et]at c6;refine⟨M6,λx=>?_,by rw[e];simpa only[List.append_assoc]using h6⟩;refine Eq.trans (T0 ..) ?_;rw[AH,gb,AR,show Y.nthL (AX t) 3=some (.int .i64 t.size)from rfl,BN,BF,CN,AH];refine step c1 ?_;rw[BF,CN,AH,g1,AR,show Y.nthL (AX t) 3=some (.int .i64 t.size)from rfl,BN,BF,CN,AH,Ef hs,AH,AR,show Y.nthL (AX t) 3=some (.int .i64 t.size)from rfl,BN,BF,CN,AH];refine step c2 ?_;rw[g2,AR,show Y.nthL (AX t) 4=some (.int .u64 t.mask)from rfl,BN,BF,CN,AH];by_cases hm:t.mask=B2 t.size
   ·obtain rfl:=q1 hm;rw[Bp hm,AH];exact c6 ..
   ·obtain⟨M3,c3,g3,q3,q4⟩:=q2 hm;rw[Bs hm,BH,AR,show Y.nthL (AX t) 4=some (.int .u64 t.mask)from rfl,BN,BF,CN,AH];refine step c3 ?_;rw[HS];by_cases hs2:t.mask<2147483648
    ·rw[decide_eq_true hs2,AH,g3,AR,show Y.nthL (AX t) 4=some (.int .u64 t.mask)from rfl,BN,BF,CN,AH,I8 ht.mask.1 hs2];refine step (q3 hs2) ?_;exact c6 ..
    ·obtain⟨M4,c4,c5⟩:=q4 hs2;rw[decide_eq_false hs2,BH,g3,AR,show Y.nthL (AX t) 4=some (.int .u64 t.mask)from rfl,BN,BF,CN,AH];refine step c4 ?_;refine step c5 ?_;exact c6 ..
  ·have hsw:sw= []:=by rw[hsw,if_neg hs]
   obtain⟨M5,q1,q2,h5⟩:=tail (by omega) h1;have hml:mk.length<=3:=by rw[hmk];(repeat' split)<;>simp
   obtain⟨M6,c6,h6⟩:=Mt hO hk htb hlp ht (by rw[List.length_append];omega) hg h5;rw[et]at c6;refine⟨M6,λx=>?_,by rw[e,hsw,List.nil_append];simpa only[List.append_assoc]using h6⟩;refine Eq.trans (T0 ..) ?_;rw[AH,gb,AR,show Y.nthL (AX t) 3=some (.int .i64 t.size)from rfl,BN,BF,CN,AH];refine step c1 ?_;rw[BF,CN,AH,g1,AR,show Y.nthL (AX t) 3=some (.int .i64 t.size)from rfl,BN,BF,CN,AH,Cg hs,BH,AR,show Y.nthL (AX t) 4=some (.int .u64 t.mask)from rfl,BN,BF,CN,AH];by_cases hm:t.mask=B2 t.size
   ·obtain rfl:=q1 hm;rw[Bp hm,AH];exact c6 ..
   ·obtain⟨M3,c3,g3,q3,q4⟩:=q2 hm;rw[Bs hm,BH,AR,show Y.nthL (AX t) 4=some (.int .u64 t.mask)from rfl,BN,BF,CN,AH];refine step c3 ?_;rw[HS];by_cases hs2:t.mask<2147483648
    ·rw[decide_eq_true hs2,AH,g3,AR,show Y.nthL (AX t) 4=some (.int .u64 t.mask)from rfl,BN,BF,CN,AH,I8 ht.mask.1 hs2];refine step (q3 hs2) ?_;exact c6 ..
    ·obtain⟨M4,c4,c5⟩:=q4 hs2;rw[decide_eq_false hs2,BH,g3,AR,show Y.nthL (AX t) 4=some (.int .u64 t.mask)from rfl,BN,BF,CN,AH];refine step c4 ?_;refine step c5 ?_;exact c6 ..
theorem Zn(hO:Gu o)(hk:100000+50<=k)(htb:K tb=some (.cells true (AX t)))(hlp:(lp,lf)∈AL)(ht:Fb t)(hl:rows.length+50<=100000)(hg:fr (n+2))(h:St K mp rows ((ol,n+1)::AL) fr M):
  ∃M',(∀(x:Nat->Value),ml o k 0 (AB 133 (up x [(0, .pointer (some ⟨mp,0,none⟩)),(2, .pointer (some ⟨lp,0,none⟩)),(4, .pointer (some ⟨tb,0,none⟩)),(6, .pointer (some ⟨ol,0,none⟩)),(7, .int .u64 0)])) M=some (CB,M'))/\St K mp (rows++(Dm t++(db t (n+1)++(Y5 t (n+1)++Cmp.endS t (n+1) (n+2) lf)))) AL (λj=>fr j/\j≠n+2) M':=by
 have gb:=h.get htb
 obtain⟨M',c,h'⟩:=gX hO hk htb hlp ht hl hg h
 refine⟨M',λx=>?_,h'⟩
 refine Eq.trans (BG _ _ _ (by kernel_rfl) _ _ _ _) ?_
 refine Eq.trans (X6 ..) ?_
 refine Eq.trans (gY ..) ?_
 rw[gb,AR,show Y.nthL (AX t) 1=some (.int .i64 t.kind)from rfl,BN,BF,CN,AH]
 by_cases h1:t.kind=3
 ·have e:BY t=true:=by simp[BY,h1]
  rw[e]at c;rw[Bp h1,AH];exact c ..
 ·rw[Bs h1,BH,AR,show Y.nthL (AX t) 1=some (.int .i64 t.kind)from rfl,BN,BF,CN,AH];by_cases h2:t.kind=4
  ·have e:BY t=true:=by simp[BY,h2]
   rw[e]at c;rw[Bp h2,AH];exact c ..
  ·have e:BY t=false:=by simp[BY,h1,h2]
   rw[e]at c;rw[Bs h2,BH];exact c ..
end
end
section
variable{K:CH}{mp:Nat}{rows:List BB}{AL:List (Nat×Nat)}{fr:Nat->Prop}{M:Mem}
variable{o:C1}{k:Nat}
theorem RR(t:A8)(n:Nat):(FZ t n).length<=120:=by
 unfold FZ
 (repeat' split)<;>simp[Cr,C6]
theorem RS(t:A8)(lf n:Nat):F0 t lf n=A9++(FZ t n++(Dm t++(db t (n+1)++(Y5 t (n+1)++Cmp.endS t (n+1) (n+2) lf)))):=by
 simp only[F0,EU,db,Y5,List.append_assoc]
theorem Ob(t:A8)(lf n:Nat):(F0 t lf n).length<=150:=by
 have h1:=RR t n
 have h2:=Xa t
 have h3:=VP t (n+1)
 have h4:=VO t (n+1)
 have h5:(Cmp.endS t (n+1) (n+2) lf).length<=7:=by unfold Cmp.endS;split<;>simp[A9]
 rw[RS]
 simp only[List.length_append,A9,List.length_cons,List.length_nil]
 omega
theorem eV{t:A8}{lp lf n:Nat}(hO:Gu o)(hk:100000+60<=k)(ht:Fb t)(hlp:(lp,lf)∈AL)(hl:rows.length+300<=100000)(h:St K mp rows AL (λj=>n<j) M):
  Hu o k 23 [ptr mp, .agg ⟨AX t⟩,ptr lp] M (St K mp (rows++F0 t lf n) AL (λj=>Eb t n<j)):=by
 obtain⟨k,rfl⟩:∃k',k=k'+1:=⟨k - 1,by omega⟩
 have hb:=h.box (.cells true (AX t))
 have h0:=hb.1.label (l:=n+1) (by omega)
 have htb:=BM K M.size (.cells true (AX t))
 obtain⟨M1,c1,h1⟩:=HA (k:=k) hO (by omega) (by omega) h0
 have gb:=h1.get htb
 have hA:=RR t n
 suffices hs:∃M2,St (EE K M.size (.cells true (AX t))) mp (rows++A9++FZ t n) ((M.size+1,n+1)::AL) (λj=>j=n+2\/Eb t n<j) M2/\
   ∀M3,(∀x:Nat->Value,ml o k 0 (AB 133 (up x [(0, .pointer (some ⟨mp,0,none⟩)),(2, .pointer (some ⟨lp,0,none⟩)),(4, .pointer (some ⟨M.size,0,none⟩)),(6, .pointer (some ⟨M.size+1,0,none⟩)),(7, .int .u64 0)])) M2=some (CB,M3))->
    Y.codeF Ek Tryz.prog kp 1 (Y.cfT Tryz.prog (Y.cfOf (AJ Tryz.prog kp 1 o k))) (Gj (Y.lpOf Tryz.prog kp 1 (AJ Tryz.prog kp 1 o k) 133)) 133 k (AB 133 (Bv [ptr mp, .agg ⟨AX t⟩,ptr lp])) M (Y.retF Tryz.prog Tryz.f23 λv m=>some (v,m))=some (CB,M3)by
  obtain⟨M2,h2,hrun⟩:=hs;obtain⟨M3,c3,h3⟩:=Zn (k:=k) hO (by omega) htb hlp ht (by simp[A9];omega) (.inl rfl) h2;refine⟨M3,CJ 133 (hO.off 23 (by decide) _ _) wN wO n21 ?_ wQ,?_⟩
  ·refine Eq.trans (BW [13,22,24,26] Tryz.prog kp 1 _ (Y.lpOf Tryz.prog kp 1 (AJ Tryz.prog kp 1 o k) 133) (λ_ _ _ _ _ _ _=>rfl) 133 k (AM Tryz.f23) (by kernel_rfl) _ M _) ?_;exact hrun M3 c3
  ·have h3:=(h3.weak h.glb hb.2).frees (fr':=λj=>Eb t n<j) λj hj=>⟨.inr hj,by
    have hj:Eb t n<j:=hj;unfold Eb at hj
    (repeat' split at hj)<;>omega⟩
   rw[RS];simpa only[List.append_assoc]using h3
 obtain⟨neg,kind,pos,size,mask,lo,hi⟩:=t
 rcases ht.kind with e|e|e|e
 ·obtain rfl:kind=1:=e;obtain⟨M2,c2,h2⟩:=P9 (k:=k) (op:=11) (d:=2) (s:=8) hO (by omega) (by simp[A9];omega) (by simp) h1;refine⟨M2,(h2.frees λj hj=>?_),λM3 c3=>?_⟩
  ·have hj:j=n+2\/n+2<j:=hj;exact⟨by omega,by omega⟩
  ·refine Eq.trans (Px ..) ?_;refine step c1 ?_;rw[gb,AR,show Y.nthL (AX ⟨neg,1,pos,size,mask,lo,hi⟩) 1=some (.int .i64 1)from rfl,BN,BF,CN,AH,show Y.eqF 1 1=true from rfl,AH];refine step c2 ?_;exact c3 _
 ·obtain rfl:kind=2:=e;obtain⟨M2,c2,h2⟩:=I6 (k:=k) (z:=4) (d:=2) (s:=6) (n:=4) hO (by omega) (by simp[A9];omega) (by simp) h1;refine⟨M2,(h2.frees λj hj=>?_),λM3 c3=>?_⟩
  ·have hj:j=n+2\/n+2<j:=hj;exact⟨by omega,by omega⟩
  ·refine Eq.trans (Px ..) ?_;refine step c1 ?_;rw[gb,AR,show Y.nthL (AX ⟨neg,2,pos,size,mask,lo,hi⟩) 1=some (.int .i64 2)from rfl,BN,BF,CN,AH,show Y.eqF 2 1=false from rfl,BH,show Y.eqF 2 2=true from rfl,AH];refine step c2 ?_;exact c3 _
 ·obtain rfl:kind=3:=e;have hp:0<=pos/\pos<=255:=ht.pos rfl;have hz:Uo size:=ht.size rfl;have hz2:1<=size/\size<=8:=by rcases hz with e|e|e|e<;>omega
  obtain⟨M2,c2,h2⟩:=Pk (k:=k) (n:=pos+size) (a:=n+3) hO (by omega) (by simp[A9];omega) (List.mem_cons_self ..) ⟨by omega,by omega⟩ h1;have g2:=h2.get htb;obtain⟨M4,c4,h4⟩:=I6 (k:=k) (z:=size) (d:=2) (s:=7) (n:=pos) hO (by omega) (by simp[A9,Cr];omega) (.inr (.inr (.inr ⟨hz,rfl,rfl⟩))) h2;refine⟨M4,?_,λM3 c3=>?_⟩
  ·simp only[List.append_assoc]at h4 ⊢;refine St.frees h4 λj hj=>?_;have hj:j=n+2\/n+3<j:=hj;exact⟨⟨by omega,by omega⟩,by omega⟩
  ·refine Eq.trans (Px ..) ?_;refine step c1 ?_
   rw[gb,AR,show Y.nthL (AX ⟨neg,3,pos,size,mask,lo,hi⟩) 1=some (.int .i64 3)from rfl,BN,BF,CN,AH,show Y.eqF 3 1=false from rfl,BH,show Y.eqF 3 2=false from rfl,BH,show Y.eqF 3 3=true from rfl,AH,
    AR,show Y.nthL (AX ⟨neg,3,pos,size,mask,lo,hi⟩) 2=some (.int .i64 pos)from rfl,BN,BF,CN,AH,AR,show Y.nthL (AX ⟨neg,3,pos,size,mask,lo,hi⟩) 3=some (.int .i64 size)from rfl,BN,BF,CN,AH,
    wrap64 (x:=Int.add pos size) (by show _<=pos+size/\pos+size<=_;omega)]
   refine step c2 ?_;rw[g2,AR,show Y.nthL (AX ⟨neg,3,pos,size,mask,lo,hi⟩) 3=some (.int .i64 size)from rfl,BN,BF,CN,AH,AR,show Y.nthL (AX ⟨neg,3,pos,size,mask,lo,hi⟩) 2=some (.int .i64 pos)from rfl,BN,BF,CN,AH];refine step c4 ?_;exact c3 _
 ·obtain rfl:kind=4:=e;have hp:0<=pos/\pos<=255:=ht.pos rfl;have hz:Uo size:=ht.size rfl;obtain⟨M2,c2,h2⟩:=fp (k:=k) (t:=⟨neg,4,pos,size,mask,lo,hi⟩) (n:=n+2) hO (by omega) (by simp[A9];omega) hp hz (List.mem_cons_self ..) (λj hj=>⟨by omega,by omega⟩) h1;refine⟨M2,?_,λM3 c3=>?_⟩
  ·refine St.frees (fr:=_) h2 λj hj=>?_;have hj:j=n+2\/n+4+32<j:=hj;exact⟨⟨by omega,by omega⟩,by omega⟩
  ·refine Eq.trans (Px ..) ?_;refine step c1 ?_
   rw[gb,AR,show Y.nthL (AX ⟨neg,4,pos,size,mask,lo,hi⟩) 1=some (.int .i64 4)from rfl,BN,BF,CN,AH,show Y.eqF 4 1=false from rfl,BH,show Y.eqF 4 2=false from rfl,BH,show Y.eqF 4 3=false from rfl,BH,
    AR,show Nat.ble 7 (Y.lenLF (AX ⟨neg,4,pos,size,mask,lo,hi⟩))=true from rfl,AH,show Y.subL (AX ⟨neg,4,pos,size,mask,lo,hi⟩) 0 7=AX ⟨neg,4,pos,size,mask,lo,hi⟩from rfl]
   refine step c2 ?_;exact c3 _
end
set_option maxHeartbeats 4000000
variable{α:Type}(x:Nat->Value)(cf:Y.CF α)(L:Y.LK α)(k:Nat)(m:Mem)
noncomputable def P7:Code:=D3 [6,11] (BK Tryz.f14 0)
noncomputable def qf:List Oper:=CA 6 (AM Tryz.f14)
noncomputable def eR:List Oper:=CA 11 (AM Tryz.f14)
noncomputable def Wz:Code:=D3 [13] (BK Tryz.f14 1)
noncomputable def Wy:List Oper:=CA 13 (AM Tryz.f14)
theorem XC(ra:Option Addr)(rn rc:Nat)(q:Value->Mem->Option α):Y.codeF (AM Tryz.f14) Tryz.prog kp 1 (Y.cfT Tryz.prog cf) L 59 k (AB 59 (Bv [.slice ra rn rc])) m (Y.retF Tryz.prog Tryz.f14 q)=
 (cf 19 [.pointer (some ⟨Mem.size m,0,none⟩),.int .i64 11,.int .u8 6,.int .u8 1] (Mem.push m (.cells true [.slice none 0 0])) (λA B=>cf 20 [.pointer (some ⟨Mem.size m,0,none⟩),.int .i64 8,.int .u8 7,.int .u8 1,.int .i64 8] B (λC D=>L (λt m q=>Y.codeF (Y.loopC (AM Tryz.f14) 0) Tryz.prog kp 1 (Y.cfT Tryz.prog cf) L 59 k t m q) (Y.loopC (AM Tryz.f14) 0) k (AB 59 (up (up Go.DI.x0 [(0,.slice ra rn rc),(12,A),(2,.slice none 0 0),(10,.pointer (some ⟨Mem.size m,0,none⟩)),(14,C),(9,.agg ⟨[.slice none 0 0]⟩),(13,.pointer (some ⟨Mem.size m,0,none⟩)),(11,.pointer (some ⟨Mem.size m,0,none⟩))]) [(3,.pointer (some ⟨Mem.size m,0,none⟩)),(15,.slice ra rn rc),(16,.int .i64 (Int.ofNat rn)),(17,.int .i64 0)])) D (Y.kont Tryz.prog kp 1 (Y.cfT Tryz.prog cf) L 59 k (AM Tryz.f14) 0 (Y.retF Tryz.prog Tryz.f14 q))))):=by kernel_rfl
theorem Yr(mp rb:Nat)(rp:Option Nat)(rn rc:Nat)(i:Int)(q:Y.ExK α):Y.codeF P7 Tryz.prog kp 1 (Y.cfT Tryz.prog cf) L 59 k (AB 59 (up x [(3,.pointer (some ⟨mp,0,none⟩)),(15,.slice (some ⟨rb,0,rp⟩) rn rc),(16,.int .i64 rn),(17,.int .i64 i)])) m q=
 (cond (Y.ltF i (Int.ofNat rn)) (L (λt m q=>Y.codeF (Y.loopC P7 0) Tryz.prog kp 1 (Y.cfT Tryz.prog cf) L 59 k t m q) (Y.loopC P7 0) k (AB 59 (up (up x [(18,.bool true)]) [(3,.pointer (some ⟨mp,0,none⟩)),(15,.slice (some (Addr.mk rb 0 rp)) rn rc),(16,.int .i64 (Int.ofNat rn)),(17,.int .i64 i)])) m (Y.kont Tryz.prog kp 1 (Y.cfT Tryz.prog cf) L 59 k P7 0 q)) (q (Ex.exit 0) (AB 59 (up (up x [(18,.bool false)]) [(3,.pointer (some ⟨mp,0,none⟩)),(15,.slice (some (Addr.mk rb 0 rp)) rn rc),(16,.int .i64 (Int.ofNat rn)),(17,.int .i64 i)])) m)):=by kernel_rfl
theorem mJ(mp rb:Nat)(rp:Option Nat)(rn rc:Nat)(i:Int)(q:AF->Mem->Option α):Y.opsF (List.take 3 qf) Tryz.prog kp 1 (Y.cfT Tryz.prog cf) 59 qf (AB 59 (up x [(3,.pointer (some ⟨mp,0,none⟩)),(15,.slice (some ⟨rb,0,rp⟩) rn rc),(16,.int .i64 rn),(17,.int .i64 i)])) m q=
 (Y.onNat i (λA=>cond (Nat.blt A rn) (Y.cellsOf (Mem.get m rb) (λ_ B=>cond (Nat.ble (Nat.add (Nat.add 0 (Nat.mul A 2)) 2) (Y.lenLF B)) (q (AB 59 (up (up x [(19,.pointer (some ⟨rb,Nat.add 0 (Nat.mul A 2),none⟩))]) [(3,.pointer (some ⟨mp,0,none⟩)),(5,.pointer (some ⟨Mem.size m,0,none⟩)),(15,.slice (some (Addr.mk rb 0 rp)) rn rc),(16,.int .i64 (Int.ofNat rn)),(17,.int .i64 i),(20,.agg ⟨Y.subL B (Nat.add 0 (Nat.mul A 2)) 2⟩)])) (Mem.push m (.cells true [.slice none 0 0,.int .u32 0]))) none)) none)):=by kernel_rfl
theorem mK(xb:Nat)(mp rb:Nat)(rp:Option Nat)(rn rc:Nat)(i:Int)(q:Y.ExK α):Y.kont Tryz.prog kp 1 (Y.cfT Tryz.prog cf) L 59 k P7 0 q .normal (AB 59 (up x [(3,.pointer (some ⟨mp,0,none⟩)),(5,.pointer (some ⟨xb,0,none⟩)),(15,.slice (some ⟨rb,0,rp⟩) rn rc),(16,.int .i64 rn),(17,.int .i64 i)])) m=
 (cf 21 [.pointer (some ⟨mp,0,none⟩)] (Mem.push m (.cells true [.int .i64 0,.slice none 0 0])) (λC B=>Y.cellsOf (Mem.get B xb) (λ_ F=>Option.elim (Y.nthL F 0) none (λG=>Y.asSl G (λD A E=>cond (Y.eqF (Int.ofNat A) 0) (cf 22 [.pointer (some ⟨mp,0,none⟩),.int .i64 5,.int .u8 2,.int .i32 0,.pointer (some ⟨Mem.size m,0,none⟩)] B (λH I=>L (λt m q=>Y.codeF (Y.loopC P7 1) Tryz.prog kp 1 (Y.cfT Tryz.prog cf) L 59 k t m q) (Y.loopC P7 1) k (AB 59 (up (up x [(24,.slice D A E),(28,H),(26,.bool true),(22,C),(25,.int .i64 (Int.ofNat A)),(21,.pointer (some ⟨mp,0,none⟩)),(27,.pointer (some ⟨mp,0,none⟩)),(23,.pointer (some ⟨xb,0,none⟩))]) [(3,.pointer (some ⟨mp,0,none⟩)),(5,.pointer (some ⟨xb,0,none⟩)),(6,.pointer (some ⟨Mem.size m,0,none⟩)),(15,.slice (some (Addr.mk rb 0 rp)) rn rc),(16,.int .i64 (Int.ofNat rn)),(17,.int .i64 i)])) I (Y.kont Tryz.prog kp 1 (Y.cfT Tryz.prog cf) L 59 k P7 1 q))) (L (λt m q=>Y.codeF (Y.loopC P7 1) Tryz.prog kp 1 (Y.cfT Tryz.prog cf) L 59 k t m q) (Y.loopC P7 1) k (AB 59 (up (up x [(24,.slice D A E),(26,.bool false),(22,C),(25,.int .i64 (Int.ofNat A)),(21,.pointer (some ⟨mp,0,none⟩)),(23,.pointer (some ⟨xb,0,none⟩))]) [(3,.pointer (some ⟨mp,0,none⟩)),(5,.pointer (some ⟨xb,0,none⟩)),(6,.pointer (some ⟨Mem.size m,0,none⟩)),(15,.slice (some (Addr.mk rb 0 rp)) rn rc),(16,.int .i64 (Int.ofNat rn)),(17,.int .i64 i)])) B (Y.kont Tryz.prog kp 1 (Y.cfT Tryz.prog cf) L 59 k P7 1 q))) none)))):=by kernel_rfl
theorem Ys(xb lp:Nat)(mp rb:Nat)(rp:Option Nat)(rn rc:Nat)(i:Int)(q:AF->Mem->Option α):Y.opsF (eR) Tryz.prog kp 1 (Y.cfT Tryz.prog cf) 59 eR (AB 59 (up x [(3,.pointer (some ⟨mp,0,none⟩)),(5,.pointer (some ⟨xb,0,none⟩)),(6,.pointer (some ⟨lp,0,none⟩)),(15,.slice (some ⟨rb,0,rp⟩) rn rc),(16,.int .i64 rn),(17,.int .i64 i)])) m q=
 (Y.cellsOf (Mem.get m xb) (λ_ B=>Option.elim (Y.nthL B 0) none (λC=>Y.asSl C (λD A E=>q (AB 59 (up (up x [(29,.pointer (some ⟨xb,0,none⟩))]) [(3,.pointer (some ⟨mp,0,none⟩)),(5,.pointer (some ⟨xb,0,none⟩)),(6,.pointer (some ⟨lp,0,none⟩)),(15,.slice (some (Addr.mk rb 0 rp)) rn rc),(16,.int .i64 (Int.ofNat rn)),(17,.int .i64 i),(30,.slice D A E),(31,.int .i64 (Int.ofNat A)),(32,.int .i64 0)])) m) none))):=by kernel_rfl
theorem Yt(xb lp:Nat)(ta:Option Addr)(tn tc:Nat)(j:Int)(mp rb:Nat)(rp:Option Nat)(rn rc:Nat)(i:Int)(q:Y.ExK α):Y.kont Tryz.prog kp 1 (Y.cfT Tryz.prog cf) L 59 k P7 1 q .normal (AB 59 (up x [(3,.pointer (some ⟨mp,0,none⟩)),(5,.pointer (some ⟨xb,0,none⟩)),(6,.pointer (some ⟨lp,0,none⟩)),(15,.slice (some ⟨rb,0,rp⟩) rn rc),(16,.int .i64 rn),(17,.int .i64 i),(30,.slice ta tn tc),(31,.int .i64 tn),(32,.int .i64 j)])) m=
 (L (λt m q=>Y.codeF (Y.loopC P7 2) Tryz.prog kp 1 (Y.cfT Tryz.prog cf) L 59 k t m q) (Y.loopC P7 2) k (AB 59 (up x [(3,.pointer (some ⟨mp,0,none⟩)),(5,.pointer (some ⟨xb,0,none⟩)),(6,.pointer (some ⟨lp,0,none⟩)),(15,.slice (some (Addr.mk rb 0 rp)) rn rc),(16,.int .i64 (Int.ofNat rn)),(17,.int .i64 i),(30,.slice ta tn tc),(31,.int .i64 (Int.ofNat tn)),(32,.int .i64 j)])) m (Y.kont Tryz.prog kp 1 (Y.cfT Tryz.prog cf) L 59 k P7 2 q)):=by kernel_rfl
theorem Yu(xb lp:Nat)(ta:Option Addr)(tn tc:Nat)(j:Int)(mp rb:Nat)(rp:Option Nat)(rn rc:Nat)(i:Int)(q:Y.ExK α):Y.kont Tryz.prog kp 1 (Y.cfT Tryz.prog cf) L 59 k P7 2 q (.exit 2) (AB 59 (up x [(3,.pointer (some ⟨mp,0,none⟩)),(5,.pointer (some ⟨xb,0,none⟩)),(6,.pointer (some ⟨lp,0,none⟩)),(15,.slice (some ⟨rb,0,rp⟩) rn rc),(16,.int .i64 rn),(17,.int .i64 i),(30,.slice ta tn tc),(31,.int .i64 tn),(32,.int .i64 j)])) m=
 (Y.cellsOf (Mem.get m xb) (λ_ D=>Option.elim (Y.nthL D 1) none (λE=>Y.asInt E (λF C=>cond (Y.kEq .u32 F) (cf 24 [.pointer (some ⟨mp,0,none⟩),.int .u32 C] m (λG A=>cf 25 [.pointer (some ⟨mp,0,none⟩),.slice (some ⟨Mem.size A,0,none⟩) 1 1] (Mem.push A (.cells true [.pointer (some ⟨lp,0,none⟩)])) (λH B=>cf 26 [.pointer (some ⟨mp,0,none⟩),.slice (some ⟨Mem.size B,0,none⟩) 1 1] (Mem.push B (.cells true [.pointer (some ⟨lp,0,none⟩)])) (λI J=>q .normal (AB 59 (up (up x [(32,.int .i64 j),(48,.slice (some ⟨Mem.size B,0,none⟩) 1 1),(40,.pointer (some ⟨mp,0,none⟩)),(44,.pointer (some ⟨mp,0,none⟩)),(50,.int .i64 (IntKind.wrap .i64 (Int.add i 1))),(42,.int .u32 C),(6,.pointer (some ⟨lp,0,none⟩)),(46,H),(30,.slice ta tn tc),(49,I),(41,.pointer (some ⟨xb,1,none⟩)),(5,.pointer (some ⟨xb,0,none⟩)),(45,.slice (some ⟨Mem.size A,0,none⟩) 1 1),(43,G),(47,.pointer (some ⟨mp,0,none⟩)),(31,.int .i64 (Int.ofNat tn))]) [(3,.pointer (some ⟨mp,0,none⟩)),(15,.slice (some (Addr.mk rb 0 rp)) rn rc),(16,.int .i64 (Int.ofNat rn)),(17,.int .i64 (IntKind.wrap .i64 (Int.add i 1)))])) J)))) none) none))):=by kernel_rfl
theorem TE(mp:Nat)(w15 Gy w17:Value)(q:Value->Mem->Option α):Y.kont Tryz.prog kp 1 (Y.cfT Tryz.prog cf) L 59 k (AM Tryz.f14) 0 (Y.retF Tryz.prog Tryz.f14 q) (.exit 0) (AB 59 (up x [(3,.pointer (some ⟨mp,0,none⟩)),(15,w15),(16,Gy),(17,w17)])) m=
 (cf 21 [.pointer (some ⟨mp,0,none⟩)] m (λH B=>cf 24 [.pointer (some ⟨mp,0,none⟩),.int .u32 0] B (λI A=>Y.cellsOf (Mem.get A mp) (λ_ C=>Option.elim (Y.nthL C 0) none (λD=>Y.asSl D (λE F G=>q (.slice E F G) A) none))))):=by kernel_rfl
theorem Yq(xb lp tb tn tc:Nat)(tp:Option Nat)(j:Int)(mp rb:Nat)(rp:Option Nat)(rn rc:Nat)(i:Int)(q:Y.ExK α):Y.codeF Wz Tryz.prog kp 1 (Y.cfT Tryz.prog cf) L 59 k (AB 59 (up x [(3,.pointer (some ⟨mp,0,none⟩)),(5,.pointer (some ⟨xb,0,none⟩)),(6,.pointer (some ⟨lp,0,none⟩)),(15,.slice (some ⟨rb,0,rp⟩) rn rc),(16,.int .i64 rn),(17,.int .i64 i),(30,.slice (some ⟨tb,0,tp⟩) tn tc),(31,.int .i64 tn),(32,.int .i64 j)])) m q=
 (cond (Y.ltF j (Int.ofNat tn)) (L (λt m q=>Y.codeF (Y.loopC Wz 0) Tryz.prog kp 1 (Y.cfT Tryz.prog cf) L 59 k t m q) (Y.loopC Wz 0) k (AB 59 (up (up x [(33,.bool true)]) [(3,.pointer (some ⟨mp,0,none⟩)),(5,.pointer (some ⟨xb,0,none⟩)),(6,.pointer (some ⟨lp,0,none⟩)),(15,.slice (some (Addr.mk rb 0 rp)) rn rc),(16,.int .i64 (Int.ofNat rn)),(17,.int .i64 i),(30,.slice (some (Addr.mk tb 0 tp)) tn tc),(31,.int .i64 (Int.ofNat tn)),(32,.int .i64 j)])) m (Y.kont Tryz.prog kp 1 (Y.cfT Tryz.prog cf) L 59 k Wz 0 q)) (q (Ex.exit 2) (AB 59 (up (up x [(33,.bool false)]) [(3,.pointer (some ⟨mp,0,none⟩)),(5,.pointer (some ⟨xb,0,none⟩)),(6,.pointer (some ⟨lp,0,none⟩)),(15,.slice (some (Addr.mk rb 0 rp)) rn rc),(16,.int .i64 (Int.ofNat rn)),(17,.int .i64 i),(30,.slice (some (Addr.mk tb 0 tp)) tn tc),(31,.int .i64 (Int.ofNat tn)),(32,.int .i64 j)])) m)):=by kernel_rfl
theorem mH(xb lp tb tn tc:Nat)(tp:Option Nat)(j:Int)(mp rb:Nat)(rp:Option Nat)(rn rc:Nat)(i:Int)(q:AF->Mem->Option α):Y.opsF (List.take 3 Wy) Tryz.prog kp 1 (Y.cfT Tryz.prog cf) 59 Wy (AB 59 (up x [(3,.pointer (some ⟨mp,0,none⟩)),(5,.pointer (some ⟨xb,0,none⟩)),(6,.pointer (some ⟨lp,0,none⟩)),(15,.slice (some ⟨rb,0,rp⟩) rn rc),(16,.int .i64 rn),(17,.int .i64 i),(30,.slice (some ⟨tb,0,tp⟩) tn tc),(31,.int .i64 tn),(32,.int .i64 j)])) m q=
 (Y.onNat j (λA=>cond (Nat.blt A tn) (Y.cellsOf (Mem.get m tb) (λ_ B=>cond (Nat.ble (Nat.add (Nat.add 0 (Nat.mul A 7)) 7) (Y.lenLF B)) (q (AB 59 (up (up x [(34,.pointer (some ⟨tb,Nat.add 0 (Nat.mul A 7),none⟩))]) [(3,.pointer (some ⟨mp,0,none⟩)),(5,.pointer (some ⟨xb,0,none⟩)),(6,.pointer (some ⟨lp,0,none⟩)),(8,.pointer (some ⟨Mem.size m,0,none⟩)),(15,.slice (some (Addr.mk rb 0 rp)) rn rc),(16,.int .i64 (Int.ofNat rn)),(17,.int .i64 i),(30,.slice (some (Addr.mk tb 0 tp)) tn tc),(31,.int .i64 (Int.ofNat tn)),(32,.int .i64 j),(35,.agg ⟨Y.subL B (Nat.add 0 (Nat.mul A 7)) 7⟩)])) (Mem.push m (.cells true [.bool false,.int .i64 0,.int .i64 0,.int .i64 0,.int .u64 0,.int .u64 0,.int .u64 0]))) none)) none)):=by kernel_rfl
theorem mI(yb:Nat)(xb lp tb tn tc:Nat)(tp:Option Nat)(j:Int)(mp rb:Nat)(rp:Option Nat)(rn rc:Nat)(i:Int)(q:Y.ExK α):Y.kont Tryz.prog kp 1 (Y.cfT Tryz.prog cf) L 59 k Wz 0 q .normal (AB 59 (up x [(3,.pointer (some ⟨mp,0,none⟩)),(5,.pointer (some ⟨xb,0,none⟩)),(6,.pointer (some ⟨lp,0,none⟩)),(8,.pointer (some ⟨yb,0,none⟩)),(15,.slice (some ⟨rb,0,rp⟩) rn rc),(16,.int .i64 rn),(17,.int .i64 i),(30,.slice (some ⟨tb,0,tp⟩) tn tc),(31,.int .i64 tn),(32,.int .i64 j)])) m=
 (Y.cellsOf (Mem.get m yb) (λ_ A=>cond (Nat.ble 7 (Y.lenLF A)) (cf 23 [.pointer (some ⟨mp,0,none⟩),.agg ⟨Y.subL A 0 7⟩,.pointer (some ⟨lp,0,none⟩)] m (λB C=>q .normal (AB 59 (up (up x [(8,.pointer (some ⟨yb,0,none⟩)),(36,.pointer (some ⟨mp,0,none⟩)),(38,B),(37,.agg ⟨Y.subL A 0 7⟩),(39,.int .i64 (IntKind.wrap .i64 (Int.add j 1)))]) [(3,.pointer (some ⟨mp,0,none⟩)),(5,.pointer (some ⟨xb,0,none⟩)),(6,.pointer (some ⟨lp,0,none⟩)),(15,.slice (some (Addr.mk rb 0 rp)) rn rc),(16,.int .i64 (Int.ofNat rn)),(17,.int .i64 i),(30,.slice (some (Addr.mk tb 0 tp)) tn tc),(31,.int .i64 (Int.ofNat tn)),(32,.int .i64 (IntKind.wrap .i64 (Int.add j 1)))])) C)) none)):=by kernel_rfl
end
end Go.Proofs.YtgjflcgmieiafaaGreatDoor
namespace Go.DI
namespace Kit
noncomputable section
def AD(N:Nat)(kn:List (Nat×Value))(e:Ex)(M:Mem)(r:Option (Ex×AF×Mem)):Prop:=∃x',r=some (e,AB N (up x' kn),M)
section
variable{N:Nat}{kn:List (Nat×Value)}{e:Ex}{M:Mem}
theorem AD.here(x:Nat->Value):AD N kn e M (some (e,AB N (up x kn),M)):=⟨x,rfl⟩
theorem up_self(F:Nat->Value):∀kn:List (Nat×Value),(∀p∈kn,F p.1=p.2)->up F kn=F
 | [],_=>rfl
 |p::kn,h=>by
  have ih:=up_self F kn λq hq=>h q (List.mem_cons_of_mem _ hq);funext i;have h1:=h p (List.mem_cons_self ..)
  have e:up F (p::kn) i=if i=p.1 then p.2 else up F kn i:=by
   show Bool.rec (motive:=λ_=>Value) (up F kn i) p.2 (Nat.beq p.1 i)=_;by_cases hij:i=p.1
   ·rw[if_pos hij,show Nat.beq p.1 i=true from by rw[hij];exact Nat.beq_refl _]
   ·rw[if_neg hij,show Nat.beq p.1 i=false from by
     cases hb:Nat.beq p.1 i with
     |false=>rfl
     |true=>exact absurd (Nat.eq_of_beq_eq_true hb).symm hij]
  rw[e,ih];split
  ·rename_i he;rw[he,h1]
  ·rfl
theorem AD.at{F:Nat->Value}(h:∀p∈kn,F p.1=p.2):AD N kn e M (some (e,AB N F,M)):=⟨F,by rw[up_self F kn h]⟩
theorem AD.via{a b:Option (Ex×AF×Mem)}(h:a=b)(hb:AD N kn e M b):AD N kn e M a:=h▸hb
theorem AD.step{df:EV}{f:FuncId}{a:List Value}{m m':Mem}{v:Value}{q:Value->Mem->Option (Ex×AF×Mem)}(h:df f a m=some (v,m'))(hq:AD N kn e M (q v m')):AD N kn e M (Y.cfOf df f a m q):=by
 rw[ke,h,Kl];exact hq
theorem AD.loop{N':Nat}{kn':List (Nat×Value)}{e':Ex}{M':Mem}{r:Option (Ex×AF×Mem)}{q:Y.ExK (Ex×AF×Mem)}(hl:AD N' kn' e' M' r) (hq:∀x',AD N kn e M (q e' (AB N' (up x' kn')) M')):AD N kn e M (Y.onE r q):=by
 obtain⟨x',rfl⟩:=hl
 rw[sG];exact hq x'
theorem AD.next{kn':List (Nat×Value)}{M':Mem}{body:AF->Mem->Option (Ex×AF×Mem)}{t:AF}{m:Mem}{j:Nat}(h:AD N kn' .normal M' (body t m)) (hq:∀x',AD N kn e M (BT body j (AB N (up x' kn')) M')):AD N kn e M (BT body (j+1) t m):=by
 obtain⟨x',h⟩:=h
 rw[Ck j h];exact hq x'
theorem AD.stop{body:AF->Mem->Option (Ex×AF×Mem)}{t:AF}{m:Mem}{j:Nat}(h:AD N kn e M (body t m))(he:e≠ .normal):AD N kn e M (BT body (j+1) t m):=by
 obtain⟨x',h⟩:=h
 rw[CY j h he];exact⟨x',rfl⟩
theorem AD.turn{P:Program}{K:TypeId->Bool}{G:Nat}{o:C1}{k n:Nat}{c:Code}{t:AF}{m:Mem} (h:AD N kn e M (Y.codeF c P K G (Y.cfT P (Y.cfOf (AJ P K G o k))) (Y.lpOf P K G (AJ P K G o k) n) n k t m Y.q0)):
  AD N kn e M (AI P K G (AJ P K G o k) (AV P K G (AJ P K G o k) n) n k c t m):=by
 obtain⟨x',h⟩:=h
 exact⟨x',Ei h⟩
theorem Hr{α:Type}{N':Nat}{kn':List (Nat×Value)}{e':Ex}{M':Mem}{r:Option (Ex×AF×Mem)}{q:Y.ExK α}{R:Option α}(hl:AD N' kn' e' M' r)(hq:∀x',q e' (AB N' (up x' kn')) M'=R):Y.onE r q=R:=by
 obtain⟨x',rfl⟩:=hl
 rw[sG];exact hq x'
end
end
end Kit
end Go.DI
namespace Go.Cmp
open Go Go.DI
section
variable{X:Type}{g:X->List Value}{z:Nat}
theorem Dd(hz:∀x,(g x).length=z):∀l:List X,(l.flatMap g).length=l.length*z
 | []=>by simp
 |x::l=>by
  have ih:=Dd hz l;simp only[List.flatMap_cons,List.length_append,ih,hz,List.length_cons];rw[Nat.add_mul,Nat.one_mul];omega
theorem HW(hz:∀x,(g x).length=z):∀(l:List X) (j:Nat) (x:X),l[j]?=some x->∃r,(l.flatMap g).drop (j*z)=g x++r
 | [],j,x,h=>by simp at h
 |y::l,0,x,h=>by simp at h;subst h;exact⟨l.flatMap g,by simp⟩
 |y::l,j+1,x,h=>by
  obtain⟨r,hr⟩:=HW hz l j x (by simpa using h);refine⟨r,?_⟩;have e:(j+1)*z=(g y).length+j*z:=by rw[hz,Nat.add_mul,Nat.one_mul];omega
  rw[e,List.flatMap_cons,←List.drop_drop,List.drop_left];exact hr
theorem Cf(hz:∀x,(g x).length=z){l:List X}{j:Nat}{x:X}(h:l[j]?=some x)(r:List Value):Y.subL (l.flatMap g++r) (Nat.add 0 (Nat.mul j z)) z=g x:=by
 obtain⟨t,ht⟩:=HW hz l j x h
 have hl:j<l.length:=(List.getElem?_eq_some_iff.1 h).1
 have hm:j*z<=l.length*z:=Nat.mul_le_mul_right z (by omega)
 rw[Y.subL_eq,show Nat.add 0 (Nat.mul j z)=j*z from Nat.zero_add _,List.drop_append_of_le_length (by rw[Dd hz];exact hm),ht,List.append_assoc]
 exact List.take_left' (hz x)
theorem Cs(hz:∀x,(g x).length=z){l:List X}{j:Nat}(h:j<l.length)(r:List Value):Nat.ble (Nat.add (Nat.add 0 (Nat.mul j z)) z) (Y.lenLF (l.flatMap g++r))=true:=by
 rw[Y.lenLF_eq,List.length_append,Dd hz]
 have hm:(j+1)*z<=l.length*z:=Nat.mul_le_mul_right z (by omega)
 rw[Nat.add_mul,Nat.one_mul]at hm
 exact Nat.ble_eq_true_of_le (by show 0+j*z+z<=_;omega)
end
def BX(x:Value×BA):List Value:= [x.1, .int .u32 x.2.verdict]
theorem Bo(x:Value×BA):(BX x).length=2:=rfl
end Go.Cmp
namespace Go.Proofs.YtgjflcgmieiafaaGreatDoor
open Go Go.DI Go.DI.Kit Go.Proofs Go.Cmp
noncomputable section
theorem D0(t:A8):(AX t).length=7:=rfl
def CX(K:CH)(v:Value)(ts:List A8):Prop:=∃a cap,v= .slice a ts.length cap/\(ts≠ []->∃b sp own rest,a=some ⟨b,0,sp⟩/\K b=some (.cells own (ts.flatMap AX++rest)))
def CT(K:CH)(v:Value)(rs:List BA):Prop:=∃a cap,v= .slice a rs.length cap/\(rs≠ []->∃(b:Nat) (sp:Option Nat) (own:Bool) (rest:List Value) (vr:List (Value×BA)),a=some ⟨b,0,sp⟩/\vr.map (·.2)=rs/\K b=some (.cells own (vr.flatMap BX++rest))/\∀x∈vr,CX K x.1 x.2.tests)
theorem CX.mono{K K':CH}{v:Value}{ts:List A8}(h:CX K v ts)(hw:∀j x,K j=some x->K' j=some x):CX K' v ts:=by
 obtain⟨a,cap,h1,h2⟩:=h
 refine⟨a,cap,h1,λh0=>?_⟩
 obtain⟨b,sp,own,rest,h3,h4⟩:=h2 h0
 exact⟨b,sp,own,rest,h3,hw _ _ h4⟩
theorem CT.mono{K K':CH}{v:Value}{rs:List BA}(h:CT K v rs)(hw:∀j x,K j=some x->K' j=some x):CT K' v rs:=by
 obtain⟨a,cap,h1,h2⟩:=h
 refine⟨a,cap,h1,λh0=>?_⟩
 obtain⟨b,sp,own,rest,vr,h3,h4,h5,h6⟩:=h2 h0
 exact⟨b,sp,own,rest,vr,h3,h4,hw _ _ h5,λx hx=>(h6 x hx).mono hw⟩
structure P5(rs:List BA):Prop where
 len:rs.length<=32
 tests:∀r∈rs,r.tests.length<=8
 ok:∀r∈rs,∀t∈r.tests,Fb t
theorem uk:Tryz.prog.funcs[14]?=some Tryz.f14:=by kernel_rfl
theorem um:Tryz.f14.body=some (AM Tryz.f14):=by kernel_rfl
theorem uo:Tryz.f14.ntmps=59:=by kernel_rfl
theorem n13{a:Value}:max [a].length Tryz.f14.ntmps=59:=by rw[uo];rfl
section
variable{α:Type}(x:Nat->Value)(cf:Y.CF α)(L:Y.LK α)(k:Nat)(m:Mem)
theorem eP(b:Nat)(w3 w15 Gy w17 u:Value)(q:AF->Mem->Option α):Y.opsF (List.drop 3 qf) Tryz.prog kp 1 (Y.cfT Tryz.prog cf) 59 qf (AB 59 (up x [(3,w3),(5, .pointer (some ⟨b,0,none⟩)),(15,w15),(16,Gy),(17,w17),(20,u)])) m q=
 Y.storeF Tryz.prog m 50 u (.pointer (some ⟨b,0,none⟩)) λm'=>q (AB 59 (up (up x [(20,u)]) [(3,w3),(5, .pointer (some ⟨b,0,none⟩)),(15,w15),(16,Gy),(17,w17)])) m':=by kernel_rfl
theorem eQ(b:Nat)(w3 w5 w6 w15 Gy w17 w30 w31 Kg u:Value)(q:AF->Mem->Option α):Y.opsF (List.drop 3 Wy) Tryz.prog kp 1 (Y.cfT Tryz.prog cf) 59 Wy (AB 59 (up x [(3,w3),(5,w5),(6,w6),(8, .pointer (some ⟨b,0,none⟩)),(15,w15),(16,Gy),(17,w17),(30,w30),(31,w31),(32,Kg),(35,u)])) m q=
 Y.storeF Tryz.prog m 52 u (.pointer (some ⟨b,0,none⟩)) λm'=>q (AB 59 (up (up x [(35,u)]) [(3,w3),(5,w5),(6,w6),(8, .pointer (some ⟨b,0,none⟩)),(15,w15),(16,Gy),(17,w17),(30,w30),(31,w31),(32,Kg)])) m':=by kernel_rfl
theorem mF(t:AF)(q:Y.ExK α):Y.codeF (Y.loopC P7 0) Tryz.prog kp 1 (Y.cfT Tryz.prog cf) L 59 k t m q=Y.opsF qf Tryz.prog kp 1 (Y.cfT Tryz.prog cf) 59 qf t m λt m=>q .normal t m:=by kernel_rfl
theorem Uq(t:AF)(q:Y.ExK α):Y.codeF (Y.loopC P7 1) Tryz.prog kp 1 (Y.cfT Tryz.prog cf) L 59 k t m q=Y.opsF eR Tryz.prog kp 1 (Y.cfT Tryz.prog cf) 59 eR t m λt m=>q .normal t m:=by kernel_rfl
theorem eS(t:AF)(q:Y.ExK α):Y.codeF (Y.loopC Wz 0) Tryz.prog kp 1 (Y.cfT Tryz.prog cf) L 59 k t m q=Y.opsF Wy Tryz.prog kp 1 (Y.cfT Tryz.prog cf) 59 Wy t m λt m=>q .normal t m:=by kernel_rfl
theorem eT(w3 w5 w6 w15 Gy w17 w30:Value)(q:Y.ExK α):Y.codeF (BK Tryz.f14 1) Tryz.prog kp 1 (Y.cfT Tryz.prog cf) L 59 k (AB 59 (up x [(3,w3),(5,w5),(6,w6),(15,w15),(16,Gy),(17,w17),(30,w30),(31, .int .i64 (0:Nat)),(32, .int .i64 (0:Int))])) m q=
 q (.exit 2) (AB 59 (up (up x [(33, .bool false)]) [(3,w3),(5,w5),(6,w6),(15,w15),(16,Gy),(17,w17),(30,w30),(31, .int .i64 (0:Nat)),(32, .int .i64 (0:Int))])) m:=by kernel_rfl
theorem eU(w3 w15:Value)(q:Y.ExK α):Y.codeF (BK Tryz.f14 0) Tryz.prog kp 1 (Y.cfT Tryz.prog cf) L 59 k (AB 59 (up x [(3,w3),(15,w15),(16, .int .i64 (0:Nat)),(17, .int .i64 (0:Int))])) m q=
 q (.exit 0) (AB 59 (up (up x [(18, .bool false)]) [(3,w3),(15,w15),(16, .int .i64 (0:Nat)),(17, .int .i64 (0:Int))])) m:=by kernel_rfl
end
theorem rT:Y.loopC P7 2=BK Tryz.f14 1:=by kernel_rfl
theorem Ye:Bz Tryz.prog 50=some 2:=by kernel_rfl
theorem lq:Bz Tryz.prog 52=some 7:=by kernel_rfl
section
variable{K K':CH}{mp:Nat}{rows:List BB}{AL:List (Nat×Nat)}{fr:Nat->Prop}{M M':Mem}
variable{o:C1}{k:Nat}
theorem St.boxE(h:St K mp rows AL fr M){b:Nat}{x:BI}(hx:Ext M M')(h1:M.size<=b)(h2:b<M'.size)(hb:M'.get b=x):St (EE K b x) mp rows AL fr M'/\∀j y,K j=some y->EE K b x j=some y:=by
 obtain⟨f,h⟩:=h
 have hb:=h.hp.box hx h1 h2 hb
 exact⟨⟨f,hb.1,hb.2 _ _ h.glob,h.pos,h.nod,h.free,h.sett,h.known⟩,hb.2⟩
theorem Ext.fresh{m:Mem}{x y:BI}:Ext m ((m.push x).set m.size y):=by
 refine⟨by show m.size<=m.size+1;omega,λj hj=>?_,λt j hj=>?_⟩
 ·rw[Mem.get_set_ne _ (by omega),Mem.get_push_ne _ (by omega)]
 ·have hj:m.size+1<=j:=hj;rw[Mem.get_set_ne _ (by omega),Mem.get_push_ne _ (by omega)];exact t j (by omega)
theorem Md{ts:List A8}{rest:List Value}{own:Bool}{lp l tb tc xb rb rn rc i:Nat}{tp rp:Option Nat}(hO:Gu o)(hk:100000+70<=k)(hn:ts.length<=8)(hts:∀t∈ts,Fb t)(hlp:(lp,l)∈AL)(htb:K tb=some (.cells own (ts.flatMap AX++rest))):
  ∀(d j:Nat),ts.length=j+d->∀(jj n:Nat) (rows:List BB) (M:Mem),d+1<=jj->rows.length+150*d+300<=100000->St K mp rows AL (λj=>n<j) M->
  ∃M',(∀x,AD 59 [(3, .pointer (some ⟨mp,0,none⟩)),(5, .pointer (some ⟨xb,0,none⟩)),(6, .pointer (some ⟨lp,0,none⟩)),(15, .slice (some ⟨rb,0,rp⟩) rn rc),(16, .int .i64 (rn:Int)),(17, .int .i64 (i:Int)),(30, .slice (some ⟨tb,0,tp⟩) ts.length tc),(31, .int .i64 (ts.length:Int)),(32, .int .i64 (ts.length:Int))] (.exit 2) M' (BT (AI Tryz.prog kp 1 (AJ Tryz.prog kp 1 o k) (AV Tryz.prog kp 1 (AJ Tryz.prog kp 1 o k) 59) 59 k (BK Tryz.f14 1)) jj (AB 59 (up x [(3, .pointer (some ⟨mp,0,none⟩)),(5, .pointer (some ⟨xb,0,none⟩)),(6, .pointer (some ⟨lp,0,none⟩)),(15, .slice (some ⟨rb,0,rp⟩) rn rc),(16, .int .i64 (rn:Int)),(17, .int .i64 (i:Int)),(30, .slice (some ⟨tb,0,tp⟩) ts.length tc),(31, .int .i64 (ts.length:Int)),(32, .int .i64 (j:Int))])) M))/\St K mp (rows++C2 l (ts.drop j) n) AL (λj'=>DC (ts.drop j) n<j') M'
 |0,j,hj,jj,n,rows,M,hjj,_,h=>by
  obtain⟨jj,rfl⟩:∃j',jj=j'+1:=⟨jj - 1,by omega⟩;obtain rfl:j=ts.length:=by omega
  refine⟨M,λx=>AD.stop (AD.turn ?_) (by simp),?_⟩
  ·refine AD.via (BW [13] Tryz.prog kp 1 _ (Y.lpOf Tryz.prog kp 1 (AJ Tryz.prog kp 1 o k) 59) (λ_ _ _ _ _ _ _=>rfl) 59 k (BK Tryz.f14 1) (by kernel_rfl) _ M _) ?_;refine AD.via (Yq ..) ?_;rw[Gh (by omega),BH];exact AD.here _
  ·rw[List.drop_length,show C2 l [] n= []from rfl,List.append_nil];exact h
 |d+1,j,hj,jj,n,rows,M,hjj,hl,h=>by
  obtain⟨jj,rfl⟩:∃j',jj=j'+1:=⟨jj - 1,by omega⟩;have hlt:j<ts.length:=by omega
  obtain⟨t,ht⟩:∃t,ts[j]?=some t:=⟨_,List.getElem?_eq_getElem hlt⟩;have htm:t∈ts:=List.mem_of_getElem? ht
  have hd:ts.drop j=t::ts.drop (j+1):=by
   rw[List.drop_eq_getElem_cons hlt];congr 1;rw[List.getElem?_eq_getElem hlt]at ht;exact Option.some.inj ht
  have gb:=h.get htb;obtain⟨M1,hM1⟩:∃M1,(M.push (.cells true [(.bool false),(.int .i64 (0:Int)),(.int .i64 (0:Int)),(.int .i64 (0:Int)),(.int .u64 (0:Int)),(.int .u64 (0:Int)),(.int .u64 (0:Int))])).set M.size (.cells true (AX t))=M1:=⟨_,rfl⟩;have gy:M1.get M.size= .cells true (AX t):=by rw[←hM1];exact Mem.get_set_same _ _ _
  have hb1:=h.boxE (M':=M1) (b:=M.size) (x:= .cells true (AX t)) (hM1▸Ext.fresh) (Nat.le_refl _) (by rw[←hM1];show M.size<M.size+1;omega) gy;obtain⟨M2,c2,h2⟩:=eV (k:=k) (lf:=l) hO (by omega) (hts t htm) hlp (by omega) hb1.1;have h2:=h2.weak h.glb hb1.2
  have hst:Bx Tryz.prog (M.push (.cells true [(.bool false),(.int .i64 (0:Int)),(.int .i64 (0:Int)),(.int .i64 (0:Int)),(.int .u64 (0:Int)),(.int .u64 (0:Int)),(.int .u64 (0:Int))])) 52 (.agg ⟨AX t⟩) (.pointer (some ⟨M.size,0,none⟩))=some M1:=by
   rw[Ce (n:=7) lq rfl (Mem.get_push_same _ _) (by simp) rfl,←hM1];rfl
  have htl:=Ob t l n;obtain⟨M3,h3,h4⟩:=Md (xb:=xb) (rb:=rb) (rn:=rn) (rc:=rc) (i:=i) (tp:=tp) (rp:=rp) (tc:=tc) hO hk hn hts hlp htb d (j+1) (by omega) jj (Eb t n) _ M2 (by omega) (by rw[List.length_append];omega) h2;refine⟨M3,λx=>AD.next (AD.turn ?_) h3,?_⟩
  ·refine AD.via (BW [13] Tryz.prog kp 1 _ (Y.lpOf Tryz.prog kp 1 (AJ Tryz.prog kp 1 o k) 59) (λ_ _ _ _ _ _ _=>rfl) 59 k (BK Tryz.f14 1) (by kernel_rfl) _ M _) ?_;refine AD.via (Yq ..) ?_;rw[ET hlt,AH];refine AD.via (BG _ _ _ (by kernel_rfl) _ _ _ _) ?_;refine AD.via (eS ..) ?_;refine AD.via (By 3 ..) ?_;refine AD.via (mH ..) ?_;rw[EH,Fg hlt,AH,gb,AR,Cs D0 hlt,AH,Cf D0 ht];refine AD.via (eQ ..) ?_;rw[Y.storeF_eq,hst,Y.ob_some];refine AD.via (mI ..) ?_;rw[gy,AR,show Nat.ble 7 (Y.lenLF (AX t))=true from rfl,AH,show Y.subL (AX t) 0 7=AX t from rfl];refine AD.step c2 ?_;rw[Ct (by omega)];exact AD.here _
  ·rw[hd,C2,DC,←List.append_assoc];exact h4
theorem XA{ts:List A8}{v:Value}{lp l xb rb rn rc i n:Nat}{rp:Option Nat}(hO:Gu o)(hk:100000+70<=k)(hn:ts.length<=8)(hts:∀t∈ts,Fb t)(hlp:(lp,l)∈AL)(hv:CX K v ts)(hl:rows.length+1600<=100000)(h:St K mp rows AL (λj=>n<j) M):
  ∃ta tc M',v= .slice ta ts.length tc/\(∀x,AD 59 [(3, .pointer (some ⟨mp,0,none⟩)),(5, .pointer (some ⟨xb,0,none⟩)),(6, .pointer (some ⟨lp,0,none⟩)),(15, .slice (some ⟨rb,0,rp⟩) rn rc),(16, .int .i64 (rn:Int)),(17, .int .i64 (i:Int)),(30, .slice ta ts.length tc),(31, .int .i64 (ts.length:Int)),(32, .int .i64 (ts.length:Int))] (.exit 2) M' (BT (AI Tryz.prog kp 1 (AJ Tryz.prog kp 1 o k) (AV Tryz.prog kp 1 (AJ Tryz.prog kp 1 o k) 59) 59 k (BK Tryz.f14 1)) k (AB 59 (up x [(3, .pointer (some ⟨mp,0,none⟩)),(5, .pointer (some ⟨xb,0,none⟩)),(6, .pointer (some ⟨lp,0,none⟩)),(15, .slice (some ⟨rb,0,rp⟩) rn rc),(16, .int .i64 (rn:Int)),(17, .int .i64 (i:Int)),(30, .slice ta ts.length tc),(31, .int .i64 (ts.length:Int)),(32, .int .i64 (0:Int))])) M))/\St K mp (rows++C2 l ts n) AL (λj'=>DC ts n<j') M':=by
 obtain⟨ta,tc,rfl,hv⟩:=hv
 by_cases h0:ts= []
 ·subst h0;obtain⟨k,rfl⟩:∃k',k=k'+1:=⟨k - 1,by omega⟩;refine⟨ta,tc,M,rfl,λx=>AD.stop (AD.turn ?_) (by simp),?_⟩
  ·exact AD.via (eT ..) (AD.here _)
  ·rw[show C2 l [] n= []from rfl,List.append_nil];exact h
 ·obtain⟨tb,tp,own,rest,rfl,htb⟩:=hv h0;obtain⟨M',h1,h2⟩:=Md (xb:=xb) (rb:=rb) (rn:=rn) (rc:=rc) (i:=i) (tp:=tp) (rp:=rp) (tc:=tc) hO hk hn hts hlp htb ts.length 0 (by omega) k n rows M (by omega) (by omega) h;exact⟨_,tc,M',rfl,h1,h2⟩
theorem JW(l:Nat):∀(ts:List A8) (n:Nat),(C2 l ts n).length<=150*ts.length
 | [],n=>by simp[C2]
 |t::ts,n=>by
  have h1:=Ob t l n;have h2:=JW l ts (Eb t n);simp only[C2,List.length_append,List.length_cons];omega
theorem Oc(r:BA)(n:Nat)(hr:r.tests.length<=8):(Gz r n).length<=1210:=by
 have h:=JW (n+1) r.tests (n+1)
 simp only[Gz,List.length_append,A9,Eg,List.length_cons,List.length_nil]
 have:(if r.tests= []then [ins (DO 5 2 0) (n+1)]else []).length<=1:=by split<;>simp
 omega
theorem XB{r:BA}{v:Value}{rest:List Value}{vr:List (Value×BA)}{own:Bool}{rb rc i n:Nat}{rp:Option Nat}(hO:Gu o)(hk:100000+80<=k)(hn:r.tests.length<=8)(hts:∀t∈r.tests,Fb t)(hi32:i<=32)
  (hrb:K rb=some (.cells own (vr.flatMap BX++rest))) (hi:vr[i]?=some (v,r)) (hv:CX K v r.tests) (hl:rows.length+2000<=100000) (h:St K mp rows [] (λj=>n<j) M):
  ∃M',(∀x,AD 59 [(3, .pointer (some ⟨mp,0,none⟩)),(15, .slice (some ⟨rb,0,rp⟩) vr.length rc),(16, .int .i64 (vr.length:Int)),(17, .int .i64 ((i+1:Nat):Int))] .normal M' (AI Tryz.prog kp 1 (AJ Tryz.prog kp 1 o k) (AV Tryz.prog kp 1 (AJ Tryz.prog kp 1 o k) 59) 59 k (BK Tryz.f14 0) (AB 59 (up x [(3, .pointer (some ⟨mp,0,none⟩)),(15, .slice (some ⟨rb,0,rp⟩) vr.length rc),(16, .int .i64 (vr.length:Int)),(17, .int .i64 (i:Int))])) M))/\St K mp (rows++Gz r n) [] (λj=>DC r.tests (n+1)<j) M':=by
 have hlt:i<vr.length:=(List.getElem?_eq_some_iff.1 hi).1
 have gb:=h.get hrb
 obtain⟨M1,hM1⟩:∃M1,(M.push (.cells true [(.slice none 0 0),(.int Go.IntKind.u32 (0:Int))])).set M.size (.cells true (BX (v,r)))=M1:=⟨_,rfl⟩
 have gx:M1.get M.size= .cells true (BX (v,r)):=by rw[←hM1];exact Mem.get_set_same _ _ _
 have s1:M1.size=M.size+1:=by rw[←hM1];rfl
 have hb1:=h.boxE (M':=M1) (b:=M.size) (x:= .cells true (BX (v,r))) (hM1▸Ext.fresh) (Nat.le_refl _) (by omega) gx
 have hst:Bx Tryz.prog (M.push (.cells true [(.slice none 0 0),(.int Go.IntKind.u32 (0:Int))])) 50 (.agg ⟨BX (v,r)⟩) (.pointer (some ⟨M.size,0,none⟩))=some M1:=by
  obtain⟨ta,tc,rfl,_⟩:=hv;rw[Ce (n:=2) Ye rfl (Mem.get_push_same _ _) (by simp) rfl,←hM1];rfl
 have h1:=hb1.1.label (l:=n+1) (by omega)
 obtain⟨M2,c2,h2⟩:=HA (k:=k) hO (by omega) (by omega) h1
 have kx:=BM K M.size (.cells true (BX (v,r)))
 have g2:=h2.get kx
 have hlp:(M1.size,n+1)∈(M1.size,n+1)::([]:List (Nat×Nat)):=List.mem_cons_self ..
 have hl3:(if r.tests= []then [ins (DO 5 2 0) (n+1)]else []).length<=1:=by split<;>simp
 obtain⟨M3,q1,q2,h3⟩:∃M3,(r.tests= []->AJ Tryz.prog kp 1 o k 22 [ptr mp, .int .i64 5, .int .u8 2, .int .i32 0,ptr M1.size] M2=some (CB,M3))/\(r.tests≠ []->M3=M2)/\
   St (EE K M.size (.cells true (BX (v,r)))) mp (rows++A9++if r.tests= []then [ins (DO 5 2 0) (n+1)]else []) [(M1.size,n+1)] (λj=>n<j/\j≠n+1) M3:=by
  by_cases e:r.tests= []
  ·obtain⟨M3,c3,h3⟩:=MH (k:=k) (op:=5) (d:=2) (n:=0) hO (by omega) (by simp[A9];omega) (by simp) hlp h2;refine⟨M3,λ_=>c3,λhn=>absurd e hn,?_⟩;rw[if_pos e];exact h3
  ·refine⟨M2,λhn=>absurd hn e,λ_=>rfl,?_⟩;rw[if_neg e,List.append_nil];exact h2
 have g3:=h3.get kx
 have h3':=h3.frees (fr':=λj=>n+1<j) λj hj=>⟨by omega,by omega⟩
 obtain⟨ta,tc,M4,hve,hloop,h4⟩:=XA (k:=k) (xb:=M.size) (rb:=rb) (rn:=vr.length) (rc:=rc) (rp:=rp) (i:=i) (l:=n+1) hO (by omega) hn hts hlp (hv.mono hb1.2) (by simp only[List.length_append,A9,List.length_cons,List.length_nil];omega) h3'
 have htl:=JW (n+1) r.tests (n+1)
 have g4:=h4.get kx
 obtain⟨M5,c5,h5⟩:=Ur (k:=k) (v:=r.verdict) hO (by omega) (by simp only[List.length_append,A9,List.length_cons,List.length_nil];omega) h4
 obtain⟨M6,c6,M7,c7,h7⟩:=MJ (k:=k) hO (by omega) (by simp only[List.length_append,Eg,A9,List.length_cons,List.length_nil];omega) h5
 have h7:=h7.weak h.glb hb1.2
 refine⟨M7,λx=>AD.turn ?_,by unfold Gz;simpa only[List.append_assoc]using h7⟩
 refine AD.via (BW [6,11] Tryz.prog kp 1 _ (Y.lpOf Tryz.prog kp 1 (AJ Tryz.prog kp 1 o k) 59) (λ_ _ _ _ _ _ _=>rfl) 59 k (BK Tryz.f14 0) (by kernel_rfl) _ M _) ?_
 refine AD.via (Yr ..) ?_
 rw[ET hlt,AH]
 refine AD.via (BG _ _ _ (by kernel_rfl) _ _ _ _) ?_
 refine AD.via (mF ..) ?_
 refine AD.via (By 3 ..) ?_
 refine AD.via (mJ ..) ?_
 rw[EH,Fg hlt,AH,gb,AR,Cs Bo hlt,AH,Cf Bo hi]
 refine AD.via (eP ..) ?_
 rw[Y.storeF_eq,hst,Y.ob_some]
 refine AD.via (mK ..) ?_
 refine AD.step c2 ?_
 rw[g2,AR,show Y.nthL (BX (v,r)) 0=some v from rfl,BN,hve,Dk]
 have hve':=hve
 by_cases e:r.tests= []
 ·rw[Bp (show Int.ofNat r.tests.length=0 by rw[e];rfl),AH];refine AD.step (q1 e) ?_;refine AD.via (BG _ _ _ (by kernel_rfl) _ _ _ _) ?_;refine AD.via (Uq ..) ?_;refine AD.via (Ys ..) ?_;rw[g3,AR,show Y.nthL (BX (v,r)) 0=some v from rfl,BN,hve',Dk];refine AD.via (Yt ..) ?_;refine AD.via (E5 _ _ (by kernel_rfl) _ _ _ _) ?_;rw[Y.lpOf_eq,rT];simp only[Int.ofNat_eq_natCast];refine AD.loop (hloop _) λx'=>?_;refine AD.via (Yu ..) ?_;rw[g4,AR,show Y.nthL (BX (v,r)) 1=some (.int .u32 r.verdict)from rfl,BN,BF,CN,AH];refine AD.step c5 ?_;refine AD.step c6 ?_;refine AD.step c7 ?_;rw[Ct (by omega)];exact AD.here _
 ·obtain rfl:=q2 e;rw[Bs (show Int.ofNat r.tests.length≠0 by intro h;exact e (List.eq_nil_of_length_eq_zero (by simpa using h))),BH];refine AD.via (BG _ _ _ (by kernel_rfl) _ _ _ _) ?_;refine AD.via (Uq ..) ?_;refine AD.via (Ys ..) ?_;rw[g3,AR,show Y.nthL (BX (v,r)) 0=some v from rfl,BN,hve',Dk];refine AD.via (Yt ..) ?_;refine AD.via (E5 _ _ (by kernel_rfl) _ _ _ _) ?_;rw[Y.lpOf_eq,rT];simp only[Int.ofNat_eq_natCast];refine AD.loop (hloop _) λx'=>?_;refine AD.via (Yu ..) ?_;rw[g4,AR,show Y.nthL (BX (v,r)) 1=some (.int .u32 r.verdict)from rfl,BN,BF,CN,AH];refine AD.step c5 ?_;refine AD.step c6 ?_;refine AD.step c7 ?_;rw[Ct (by omega)];exact AD.here _
theorem Me{rs:List BA}{rest:List Value}{vr:List (Value×BA)}{own:Bool}{rb rc:Nat}{rp:Option Nat}(hO:Gu o)(hk:100000+80<=k)(hT:P5 rs)(hrs:vr.map (·.2)=rs)(hrb:K rb=some (.cells own (vr.flatMap BX++rest)))(hv:∀x∈vr,CX K x.1 x.2.tests):
  ∀(d i:Nat),vr.length=i+d->∀(jj n:Nat) (rows:List BB) (M:Mem),d+1<=jj->rows.length+1210*d+2000<=100000->St K mp rows [] (λj=>n<j) M->
  ∃M',(∀x,AD 59 [(3, .pointer (some ⟨mp,0,none⟩)),(15, .slice (some ⟨rb,0,rp⟩) vr.length rc),(16, .int .i64 (vr.length:Int)),(17, .int .i64 (vr.length:Int))] (.exit 0) M' (BT (AI Tryz.prog kp 1 (AJ Tryz.prog kp 1 o k) (AV Tryz.prog kp 1 (AJ Tryz.prog kp 1 o k) 59) 59 k (BK Tryz.f14 0)) jj (AB 59 (up x [(3, .pointer (some ⟨mp,0,none⟩)),(15, .slice (some ⟨rb,0,rp⟩) vr.length rc),(16, .int .i64 (vr.length:Int)),(17, .int .i64 (i:Int))])) M))/\St K mp (rows++CQ (rs.drop i) n) [] (λj'=>P8 (rs.drop i) n<j') M'
 |0,i,hi,jj,n,rows,M,hjj,_,h=>by
  obtain⟨jj,rfl⟩:∃j',jj=j'+1:=⟨jj - 1,by omega⟩;obtain rfl:i=vr.length:=by omega
  have hlen:rs.length=vr.length:=by rw[←hrs,List.length_map]
  refine⟨M,λx=>AD.stop (AD.turn ?_) (by simp),?_⟩
  ·refine AD.via (BW [6,11] Tryz.prog kp 1 _ (Y.lpOf Tryz.prog kp 1 (AJ Tryz.prog kp 1 o k) 59) (λ_ _ _ _ _ _ _=>rfl) 59 k (BK Tryz.f14 0) (by kernel_rfl) _ M _) ?_;refine AD.via (Yr ..) ?_;rw[Gh (by omega),BH];exact AD.here _
  ·rw[←hlen,List.drop_length,show CQ [] n= []from rfl,List.append_nil];exact h
 |d+1,i,hi,jj,n,rows,M,hjj,hl,h=>by
  obtain⟨jj,rfl⟩:∃j',jj=j'+1:=⟨jj - 1,by omega⟩;have hlen:rs.length=vr.length:=by rw[←hrs,List.length_map]
  have h32:=hT.len;have hlt:i<vr.length:=by omega
  obtain⟨p,hp⟩:∃p,vr[i]?=some p:=⟨_,List.getElem?_eq_getElem hlt⟩;obtain⟨v,r⟩:=p;have hpm:(v,r)∈vr:=List.mem_of_getElem? hp;have hrm:r∈rs:=by rw[←hrs];exact List.mem_map.2 ⟨_,hpm,rfl⟩
  have hri:rs[i]?=some r:=by rw[←hrs,List.getElem?_map,hp];rfl
  have hd:rs.drop i=r::rs.drop (i+1):=by
   rw[List.drop_eq_getElem_cons (by omega)];congr 1;rw[List.getElem?_eq_getElem (by omega)]at hri;exact Option.some.inj hri
  obtain⟨M2,h1,h2⟩:=XB (k:=k) (rc:=rc) (rp:=rp) hO hk (hT.tests r hrm) (hT.ok r hrm) (by omega) hrb hp (hv _ hpm) (by omega) h;have htl:=Oc r n (hT.tests r hrm);obtain⟨M3,h3,h4⟩:=Me (rc:=rc) (rp:=rp) hO hk hT hrs hrb hv d (i+1) (by omega) jj (DC r.tests (n+1)) _ M2 (by omega) (by rw[List.length_append];omega) h2;refine⟨M3,λx=>AD.next (h1 x) h3,?_⟩;rw[hd,CQ,P8,←List.append_assoc];exact h4
theorem Mf:∀(rs:List BA) (n:Nat),(∀r∈rs,r.tests.length<=8)->(CQ rs n).length<=1210*rs.length
 | [],n,_=>by simp[CQ]
 |r::rs,n,h=>by
  have h1:=Oc r n (h r (by simp));have h2:=Mf rs (DC r.tests (n+1)) λr hr=>h r (by simp[hr]);simp only[CQ,List.length_append,List.length_cons];omega
theorem mL{a:Option Addr}{n c:Nat}:I5 Tryz.prog 14 (.slice a n c)=true:=by kernel_rfl
theorem St.new(h:Hp M K [])(h0:K 0=some (.cells false gl)):St K M.size [] [] (λj=>0<j) (M.push (.cells true [.slice none 0 0])):=by
 refine⟨λ_=>none,h.push [] [] 5,h0,λx hx=>by simp at hx,by simp,λl hl=>⟨hl,rfl,λx hx=>by simp at hx,λr hr=>by simp at hr⟩,λl q hq=>(by cases hq),λr hr=>by simp at hr⟩
theorem eJ{rs:List BA}{v:Value}(hO:Gu o)(hk:100000+100<=k)(hT:P5 rs)(hv:CT K v rs)(h:Hp M K [])(h0:K 0=some (.cells false gl)):
  ∃v' M' mp,AJ Tryz.prog kp 1 o k 14 [v] M=some (v',M')/\M'.get mp= .cells true [v']/\Hp M' K [(mp,Hk (Bf (BS rs)))]:=by
 obtain⟨k,rfl⟩:∃k',k=k'+1:=⟨k - 1,by omega⟩
 have s0:=St.new h h0
 obtain⟨M1,c1,h1⟩:=P9 (k:=k) (op:=11) (d:=6) (s:=1) hO (by omega) (by simp) (by simp) s0
 obtain⟨M2,c2,h2⟩:=I6 (k:=k) (z:=8) (d:=7) (s:=1) (n:=8) hO (by omega) (by simp) (by simp) h1
 obtain⟨ra,rc,rfl,hv⟩:=hv
 have hlen:=Mf rs 0 hT.tests
 have h32:=hT.len
 obtain⟨M3,hloop,h3⟩:∃M3,(∀x,AD 59 [(3,ptr M.size),(15, .slice ra rs.length rc),(16, .int .i64 (rs.length:Int)),(17, .int .i64 (rs.length:Int))] (.exit 0) M3 (BT (AI Tryz.prog kp 1 (AJ Tryz.prog kp 1 o k) (AV Tryz.prog kp 1 (AJ Tryz.prog kp 1 o k) 59) 59 k (BK Tryz.f14 0)) k (AB 59 (up x [(3,ptr M.size),(15, .slice ra rs.length rc),(16, .int .i64 (rs.length:Int)),(17, .int .i64 (0:Int))])) M2))/\
   St K M.size ([]++ [ins (Bj 11 6 1) 0]++ [ins (BL 8 7 1 8) 0]++CQ rs 0) [] (λj'=>P8 rs 0<j') M3:=by
  by_cases e:rs= []
  ·subst e;obtain⟨k,rfl⟩:∃k',k=k'+1:=⟨k - 1,by omega⟩;refine⟨M2,λx=>AD.stop (AD.turn ?_) (by simp),by rw[show CQ [] 0= []from rfl,List.append_nil];exact h2⟩;exact AD.via (eU ..) (AD.here _)
  ·obtain⟨rb,rp,own,rest,vr,rfl,hrs,hrb,hvt⟩:=hv e;have hl2:rs.length=vr.length:=by rw[←hrs,List.length_map]
   obtain⟨M3,q1,q2⟩:=Me (mp:=M.size) (rc:=rc) (rp:=rp) (k:=k) hO (by omega) hT hrs hrb hvt vr.length 0 (by omega) k 0 _ M2 (by omega) (by simp;omega) h2;refine⟨M3,λx=>?_,q2⟩;rw[hl2];exact q1 x
 obtain⟨M4,c4,h4⟩:=HA (k:=k) hO (by omega) (by simp only[List.length_append,List.length_cons,List.length_nil];omega) h3
 obtain⟨M5,c5,h5⟩:=Ur (k:=k) (v:=0) hO (by omega) (by simp only[List.length_append,List.length_cons,List.length_nil,A9];omega) h4
 have h6:=h5.made
 rw[show []++ [ins (Bj 11 6 1) 0]++ [ins (BL 8 7 1 8) 0]++CQ rs 0++A9++Eg 0=BS rs by simp only[BS,List.nil_append,List.append_assoc,List.cons_append]]at h6
 obtain⟨_,_,_,⟨a,rfl⟩,gm,_⟩:=h6.set
 have gm':M5.get M.size= .cells true [.slice a (Bf (BS rs)).length (Bf (BS rs)).length]:=gm
 refine⟨.slice a (Bf (BS rs)).length (Bf (BS rs)).length,M5,M.size,CJ 59 (hO.off 14 (by decide) _ _) uk um n13 ?_ mL,gm',h6⟩
 refine Eq.trans (XC ..) ?_
 refine step c1 ?_
 refine step c2 ?_
 rw[Y.lpOf_eq,Y.loopC_body]
 simp only[Int.ofNat_eq_natCast]
 refine Hr (hloop _) λx'=>?_
 refine Eq.trans (TE ..) ?_
 refine step c4 ?_
 refine step c5 ?_
 rw[gm',AR,show Y.nthL [Value.slice a (Bf (BS rs)).length (Bf (BS rs)).length] 0=some (.slice a (Bf (BS rs)).length (Bf (BS rs)).length)from rfl,BN,Dk]
end
end
end Go.Proofs.YtgjflcgmieiafaaGreatDoor
namespace Go.Cmp
def C9:List BA->Nat->Option (Nat×Int)
 | [],_=>none
 |r::l,i=>if 8<r.tests.length then some (i,3)else if r.tests.all Dg=true then C9 l (i+1)else some (i,1)
def Ee(rs:List BA):Nat×Int:=if 32<rs.length then(0,3)else(C9 rs 0).getD (0,0)
end Go.Cmp
namespace Go.Proofs.YtgjflcgmieiafaaGreatDoor
open Go Go.DI Go.DI.Kit Go.Proofs Go.Cmp
noncomputable section
theorem rH:Tryz.prog.funcs[13]?=some Tryz.f13:=by kernel_rfl
theorem rK:Tryz.f13.body=some (AM Tryz.f13):=by kernel_rfl
theorem uf:Tryz.f13.ntmps=36:=by kernel_rfl
theorem xi{a:Value}:max [a].length Tryz.f13.ntmps=36:=by rw[uf];rfl
theorem rL{a b:Int}:I5 Tryz.prog 13 (.tuple ⟨[.int .i64 a, .int .i64 b]⟩)=true:=by kernel_rfl
section
variable{α:Type}(x:Nat->Value)(cf:Y.CF α)(L:Y.LK α)(k:Nat)(m:Mem)
theorem MG(b:Nat)(w4 w11 w12 w13 u:Value)(q:AF->Mem->Option α):Y.opsF (List.drop 5 O3) Tryz.prog kp 1 (Y.cfT Tryz.prog cf) 36 O3 (AB 36 (up x [(4,w4),(5, .pointer (some ⟨b,0,none⟩)),(11,w11),(12,w12),(13,w13),(17,u)])) m q=
 Y.storeF Tryz.prog m 50 u (.pointer (some ⟨b,0,none⟩)) λm'=>q (AB 36 (up (up x [(17,u)]) [(4,w4),(5, .pointer (some ⟨b,0,none⟩)),(11,w11),(12,w12),(13,w13)])) m':=by kernel_rfl
theorem P1(b:Nat)(w4 w5 w11 w12 w13 w24 w25 w26 u:Value)(q:AF->Mem->Option α):Y.opsF (List.drop 3 Ki) Tryz.prog kp 1 (Y.cfT Tryz.prog cf) 36 Ki (AB 36 (up x [(4,w4),(5,w5),(7, .pointer (some ⟨b,0,none⟩)),(11,w11),(12,w12),(13,w13),(24,w24),(25,w25),(26,w26),(29,u)])) m q=
 Y.storeF Tryz.prog m 52 u (.pointer (some ⟨b,0,none⟩)) λm'=>q (AB 36 (up (up x [(29,u)]) [(4,w4),(5,w5),(7, .pointer (some ⟨b,0,none⟩)),(11,w11),(12,w12),(13,w13),(24,w24),(25,w25),(26,w26)])) m':=by kernel_rfl
theorem Jv(t:AF)(q:Y.ExK α):Y.codeF (Y.loopC Qo 0) Tryz.prog kp 1 (Y.cfT Tryz.prog cf) L 36 k t m q=Y.opsF O3 Tryz.prog kp 1 (Y.cfT Tryz.prog cf) 36 O3 t m λt m=>q .normal t m:=by kernel_rfl
theorem MY(t:AF)(q:Y.ExK α):Y.codeF (Y.loopC Qo 1) Tryz.prog kp 1 (Y.cfT Tryz.prog cf) L 36 k t m q=Y.opsF Um Tryz.prog kp 1 (Y.cfT Tryz.prog cf) 36 Um t m λt m=>q .normal t m:=by kernel_rfl
theorem Kj(t:AF)(q:Y.ExK α):Y.codeF (Y.loopC Wq 0) Tryz.prog kp 1 (Y.cfT Tryz.prog cf) L 36 k t m q=Y.opsF Ki Tryz.prog kp 1 (Y.cfT Tryz.prog cf) 36 Ki t m λt m=>q .normal t m:=by kernel_rfl
theorem du(w4 w5 w11 w12 w13 w24:Value)(q:Y.ExK α):Y.codeF (BK Tryz.f13 1) Tryz.prog kp 1 (Y.cfT Tryz.prog cf) L 36 k (AB 36 (up x [(4,w4),(5,w5),(11,w11),(12,w12),(13,w13),(24,w24),(25, .int .i64 (0:Nat)),(26, .int .i64 (0:Int))])) m q=
 q (.exit 2) (AB 36 (up (up x [(27, .bool false)]) [(4,w4),(5,w5),(11,w11),(12,w12),(13,w13),(24,w24),(25, .int .i64 (0:Nat)),(26, .int .i64 (0:Int))])) m:=by kernel_rfl
theorem dv(w11:Value)(q:Y.ExK α):Y.codeF (BK Tryz.f13 0) Tryz.prog kp 1 (Y.cfT Tryz.prog cf) L 36 k (AB 36 (up x [(11,w11),(12, .int .i64 (0:Nat)),(13, .int .i64 (0:Int))])) m q=
 q (.exit 0) (AB 36 (up (up x [(14, .bool false)]) [(11,w11),(12, .int .i64 (0:Nat)),(13, .int .i64 (0:Int))])) m:=by kernel_rfl
end
theorem ll:Y.loopC Qo 2=BK Tryz.f13 1:=by kernel_rfl
theorem xj{F:Nat->Value}{a b:Nat×Value}(h1:F a.1=a.2)(h2:F b.1=b.2):∀p∈ [a,b],F p.1=p.2:=by
 intro p hp
 simp only[List.mem_cons,List.not_mem_nil,or_false]at hp
 rcases hp with rfl|rfl
 ·exact h1
 ·exact h2
section
variable{K:CH}{M:Mem}{o:C1}{k:Nat}
theorem dw{hs:List (Nat×Bw)}(h:Hp M K hs)(h0:K 0=some (.cells false gl)):M.top/\1<=M.size/\M.get 0= .cells false gl:=⟨h.top,by have:=h.lt h0;omega,h.get h0⟩
theorem O4{ts:List A8}{rest:List Value}{own:Bool}{tb tc xb rb rn rc i:Nat}{tp rp:Option Nat}(hO:Gu o)(hk:100<=k)(hn:ts.length<=8)(h0:K 0=some (.cells false gl))(htb:K tb=some (.cells own (ts.flatMap AX++rest))):
  ∀(d j:Nat),ts.length=j+d->∀(jj:Nat) (M:Mem),d+1<=jj->Hp M K []->
  ∃M',Hp M' K []/\((ts.drop j).all Dg=true->∀x,AD 36 [(4, .int .i64 (i:Int)),(5, .pointer (some ⟨xb,0,none⟩)),(11, .slice (some ⟨rb,0,rp⟩) rn rc),(12, .int .i64 (rn:Int)),(13, .int .i64 (i:Int)),(24, .slice (some ⟨tb,0,tp⟩) ts.length tc),(25, .int .i64 (ts.length:Int)),(26, .int .i64 (ts.length:Int))] (.exit 2) M' (BT (AI Tryz.prog kp 1 (AJ Tryz.prog kp 1 o k) (AV Tryz.prog kp 1 (AJ Tryz.prog kp 1 o k) 36) 36 k (BK Tryz.f13 1)) jj (AB 36 (up x [(4, .int .i64 (i:Int)),(5, .pointer (some ⟨xb,0,none⟩)),(11, .slice (some ⟨rb,0,rp⟩) rn rc),(12, .int .i64 (rn:Int)),(13, .int .i64 (i:Int)),(24, .slice (some ⟨tb,0,tp⟩) ts.length tc),(25, .int .i64 (ts.length:Int)),(26, .int .i64 (j:Int))])) M))/\
   ((ts.drop j).all Dg=false->∀x,AD 36 [(2, .int .i64 (i:Int)),(3, .int .i64 1)] .ret M' (BT (AI Tryz.prog kp 1 (AJ Tryz.prog kp 1 o k) (AV Tryz.prog kp 1 (AJ Tryz.prog kp 1 o k) 36) 36 k (BK Tryz.f13 1)) jj (AB 36 (up x [(4, .int .i64 (i:Int)),(5, .pointer (some ⟨xb,0,none⟩)),(11, .slice (some ⟨rb,0,rp⟩) rn rc),(12, .int .i64 (rn:Int)),(13, .int .i64 (i:Int)),(24, .slice (some ⟨tb,0,tp⟩) ts.length tc),(25, .int .i64 (ts.length:Int)),(26, .int .i64 (j:Int))])) M))
 |0,j,hj,jj,M,hjj,h=>by
  obtain⟨jj,rfl⟩:∃j',jj=j'+1:=⟨jj - 1,by omega⟩;obtain rfl:j=ts.length:=by omega
  refine⟨M,h,λ_ x=>AD.stop (AD.turn ?_) (by simp),λha=>by rw[List.drop_length]at ha;cases ha⟩;refine AD.via (BW [10] Tryz.prog kp 1 _ (Y.lpOf Tryz.prog kp 1 (AJ Tryz.prog kp 1 o k) 36) (λ_ _ _ _ _ _ _=>rfl) 36 k (BK Tryz.f13 1) (by kernel_rfl) _ M _) ?_;refine AD.via (P2 ..) ?_;rw[Gh (by omega),BH];exact AD.here _
 |d+1,j,hj,jj,M,hjj,h=>by
  obtain⟨jj,rfl⟩:∃j',jj=j'+1:=⟨jj - 1,by omega⟩;have hlt:j<ts.length:=by omega
  obtain⟨t,ht⟩:∃t,ts[j]?=some t:=⟨_,List.getElem?_eq_getElem hlt⟩
  have hd:ts.drop j=t::ts.drop (j+1):=by
   rw[List.drop_eq_getElem_cons hlt];congr 1;rw[List.getElem?_eq_getElem hlt]at ht;exact Option.some.inj ht
  have gb:=h.get htb;obtain⟨M1,hM1⟩:∃M1,(M.push (.cells true [(.bool false),(.int .i64 (0:Int)),(.int .i64 (0:Int)),(.int .i64 (0:Int)),(.int .u64 (0:Int)),(.int .u64 (0:Int)),(.int .u64 (0:Int))])).set M.size (.cells true (AX t))=M1:=⟨_,rfl⟩;have gy:M1.get M.size= .cells true (AX t):=by rw[←hM1];exact Mem.get_set_same _ _ _
  have h1:Hp M1 K []:=h.ext (hM1▸Ext.fresh)
  have hst:Bx Tryz.prog (M.push (.cells true [(.bool false),(.int .i64 (0:Int)),(.int .i64 (0:Int)),(.int .i64 (0:Int)),(.int .u64 (0:Int)),(.int .u64 (0:Int)),(.int .u64 (0:Int))])) 52 (.agg ⟨AX t⟩) (.pointer (some ⟨M.size,0,none⟩))=some M1:=by
   rw[Ce (n:=7) lq rfl (Mem.get_push_same _ _) (by simp) rfl,←hM1];rfl
  obtain⟨M2,c2,x2⟩:=lr (t:=t) (k:=k) hO (by omega) (dw h1 h0);have h2:=h1.ext x2;obtain⟨M3,h3,q1,q2⟩:=O4 (xb:=xb) (rb:=rb) (rn:=rn) (rc:=rc) (i:=i) (tp:=tp) (rp:=rp) (tc:=tc) hO hk hn h0 htb d (j+1) (by omega) jj M2 (by omega) h2;cases hm:Dg t with
  |true=>
   refine⟨M3,h3,λha x=>AD.next (AD.turn ?_) (q1 (by rw[hd,List.all_cons,hm]at ha;exact ha)),λha x=>AD.next (AD.turn ?_) (q2 (by rw[hd,List.all_cons,hm]at ha;exact ha))⟩
   ·refine AD.via (BW [10] Tryz.prog kp 1 _ (Y.lpOf Tryz.prog kp 1 (AJ Tryz.prog kp 1 o k) 36) (λ_ _ _ _ _ _ _=>rfl) 36 k (BK Tryz.f13 1) (by kernel_rfl) _ M _) ?_;refine AD.via (P2 ..) ?_;rw[ET hlt,AH];refine AD.via (BG _ _ _ (by kernel_rfl) _ _ _ _) ?_;refine AD.via (Kj ..) ?_;refine AD.via (By 3 ..) ?_;refine AD.via (Sv ..) ?_;rw[EH,Fg hlt,AH,gb,AR,Cs D0 hlt,AH,Cf D0 ht];refine AD.via (P1 ..) ?_;rw[Y.storeF_eq,hst,Y.ob_some];refine AD.via (Sw ..) ?_;rw[gy,AR,show Nat.ble 7 (Y.lenLF (AX t))=true from rfl,AH,show Y.subL (AX t) 0 7=AX t from rfl];refine AD.step c2 ?_;rw[hm,HS,AH,Ct (by omega)];exact AD.here _
   ·refine AD.via (BW [10] Tryz.prog kp 1 _ (Y.lpOf Tryz.prog kp 1 (AJ Tryz.prog kp 1 o k) 36) (λ_ _ _ _ _ _ _=>rfl) 36 k (BK Tryz.f13 1) (by kernel_rfl) _ M _) ?_;refine AD.via (P2 ..) ?_;rw[ET hlt,AH];refine AD.via (BG _ _ _ (by kernel_rfl) _ _ _ _) ?_;refine AD.via (Kj ..) ?_;refine AD.via (By 3 ..) ?_;refine AD.via (Sv ..) ?_;rw[EH,Fg hlt,AH,gb,AR,Cs D0 hlt,AH,Cf D0 ht];refine AD.via (P1 ..) ?_;rw[Y.storeF_eq,hst,Y.ob_some];refine AD.via (Sw ..) ?_;rw[gy,AR,show Nat.ble 7 (Y.lenLF (AX t))=true from rfl,AH,show Y.subL (AX t) 0 7=AX t from rfl];refine AD.step c2 ?_;rw[hm,HS,AH,Ct (by omega)];exact AD.here _
  |false=>
   refine⟨M2,h2,λha=>(by rw[hd,List.all_cons,hm]at ha;cases ha),λ_ x=>AD.stop (AD.turn ?_) (by simp)⟩;refine AD.via (BW [10] Tryz.prog kp 1 _ (Y.lpOf Tryz.prog kp 1 (AJ Tryz.prog kp 1 o k) 36) (λ_ _ _ _ _ _ _=>rfl) 36 k (BK Tryz.f13 1) (by kernel_rfl) _ M _) ?_;refine AD.via (P2 ..) ?_;rw[ET hlt,AH];refine AD.via (BG _ _ _ (by kernel_rfl) _ _ _ _) ?_;refine AD.via (Kj ..) ?_;refine AD.via (By 3 ..) ?_;refine AD.via (Sv ..) ?_;rw[EH,Fg hlt,AH,gb,AR,Cs D0 hlt,AH,Cf D0 ht];refine AD.via (P1 ..) ?_;rw[Y.storeF_eq,hst,Y.ob_some];refine AD.via (Sw ..) ?_;rw[gy,AR,show Nat.ble 7 (Y.lenLF (AX t))=true from rfl,AH,show Y.subL (AX t) 0 7=AX t from rfl];refine AD.step c2 ?_;rw[hm,HS,BH];exact AD.at (xj rfl rfl)
theorem Yd{ts:List A8}{v:Value}{xb rb rn rc i:Nat}{rp:Option Nat}(hO:Gu o)(hk:100<=k)(hn:ts.length<=8)(h0:K 0=some (.cells false gl))(hv:CX K v ts)(h:Hp M K []):
  ∃ta tc M',v= .slice ta ts.length tc/\Hp M' K []/\(ts.all Dg=true->∀x,AD 36 [(4, .int .i64 (i:Int)),(5, .pointer (some ⟨xb,0,none⟩)),(11, .slice (some ⟨rb,0,rp⟩) rn rc),(12, .int .i64 (rn:Int)),(13, .int .i64 (i:Int)),(24, .slice ta ts.length tc),(25, .int .i64 (ts.length:Int)),(26, .int .i64 (ts.length:Int))] (.exit 2) M' (BT (AI Tryz.prog kp 1 (AJ Tryz.prog kp 1 o k) (AV Tryz.prog kp 1 (AJ Tryz.prog kp 1 o k) 36) 36 k (BK Tryz.f13 1)) k (AB 36 (up x [(4, .int .i64 (i:Int)),(5, .pointer (some ⟨xb,0,none⟩)),(11, .slice (some ⟨rb,0,rp⟩) rn rc),(12, .int .i64 (rn:Int)),(13, .int .i64 (i:Int)),(24, .slice ta ts.length tc),(25, .int .i64 (ts.length:Int)),(26, .int .i64 (0:Int))])) M))/\
   (ts.all Dg=false->∀x,AD 36 [(2, .int .i64 (i:Int)),(3, .int .i64 1)] .ret M' (BT (AI Tryz.prog kp 1 (AJ Tryz.prog kp 1 o k) (AV Tryz.prog kp 1 (AJ Tryz.prog kp 1 o k) 36) 36 k (BK Tryz.f13 1)) k (AB 36 (up x [(4, .int .i64 (i:Int)),(5, .pointer (some ⟨xb,0,none⟩)),(11, .slice (some ⟨rb,0,rp⟩) rn rc),(12, .int .i64 (rn:Int)),(13, .int .i64 (i:Int)),(24, .slice ta ts.length tc),(25, .int .i64 (ts.length:Int)),(26, .int .i64 (0:Int))])) M)):=by
 obtain⟨ta,tc,rfl,hv⟩:=hv
 by_cases e:ts= []
 ·subst e;obtain⟨k,rfl⟩:∃k',k=k'+1:=⟨k - 1,by omega⟩;refine⟨ta,tc,M,rfl,h,λ_ x=>AD.stop (AD.turn ?_) (by simp),λha=>by cases ha⟩;exact AD.via (du ..) (AD.here _)
 ·obtain⟨tb,tp,own,rest,rfl,htb⟩:=hv e;obtain⟨M',h1,h2,h3⟩:=O4 (xb:=xb) (rb:=rb) (rn:=rn) (rc:=rc) (i:=i) (tp:=tp) (rp:=rp) (tc:=tc) (k:=k) hO hk hn h0 htb ts.length 0 (by omega) k M (by omega) h;exact⟨_,tc,M',rfl,h1,h2,h3⟩
theorem O5{rs:List BA}{rest:List Value}{vr:List (Value×BA)}{own:Bool}{rb rc:Nat}{rp:Option Nat}(hO:Gu o)(hk:200<=k)(hlen:rs.length<=32)(hrs:vr.map (·.2)=rs)(h0:K 0=some (.cells false gl))(hrb:K rb=some (.cells own (vr.flatMap BX++rest)))(hv:∀x∈vr,CX K x.1 x.2.tests):
  ∀(d i:Nat),vr.length=i+d->∀(jj:Nat) (M:Mem),d+1<=jj->Hp M K []->
  ∃M',Hp M' K []/\(C9 (rs.drop i) i=none->∀x,AD 36 [(11, .slice (some ⟨rb,0,rp⟩) vr.length rc),(12, .int .i64 (vr.length:Int)),(13, .int .i64 (vr.length:Int))] (.exit 0) M' (BT (AI Tryz.prog kp 1 (AJ Tryz.prog kp 1 o k) (AV Tryz.prog kp 1 (AJ Tryz.prog kp 1 o k) 36) 36 k (BK Tryz.f13 0)) jj (AB 36 (up x [(11, .slice (some ⟨rb,0,rp⟩) vr.length rc),(12, .int .i64 (vr.length:Int)),(13, .int .i64 (i:Int))])) M))/\
   (∀a e,C9 (rs.drop i) i=some (a,e)->∀x,AD 36 [(2, .int .i64 (a:Int)),(3, .int .i64 e)] .ret M' (BT (AI Tryz.prog kp 1 (AJ Tryz.prog kp 1 o k) (AV Tryz.prog kp 1 (AJ Tryz.prog kp 1 o k) 36) 36 k (BK Tryz.f13 0)) jj (AB 36 (up x [(11, .slice (some ⟨rb,0,rp⟩) vr.length rc),(12, .int .i64 (vr.length:Int)),(13, .int .i64 (i:Int))])) M))
 |0,i,hi,jj,M,hjj,h=>by
  obtain⟨jj,rfl⟩:∃j',jj=j'+1:=⟨jj - 1,by omega⟩;obtain rfl:i=vr.length:=by omega
  have hl:rs.length=vr.length:=by rw[←hrs,List.length_map]
  refine⟨M,h,λ_ x=>AD.stop (AD.turn ?_) (by simp),λa e ha=>by rw[←hl,List.drop_length]at ha;cases ha⟩;refine AD.via (BW [5,8] Tryz.prog kp 1 _ (Y.lpOf Tryz.prog kp 1 (AJ Tryz.prog kp 1 o k) 36) (λ_ _ _ _ _ _ _=>rfl) 36 k (BK Tryz.f13 0) (by kernel_rfl) _ M _) ?_;refine AD.via (MZ ..) ?_;rw[Gh (by omega),BH];exact AD.here _
 |d+1,i,hi,jj,M,hjj,h=>by
  obtain⟨jj,rfl⟩:∃j',jj=j'+1:=⟨jj - 1,by omega⟩;have hl:rs.length=vr.length:=by rw[←hrs,List.length_map]
  have hlt:i<vr.length:=by omega
  obtain⟨p,hp⟩:∃p,vr[i]?=some p:=⟨_,List.getElem?_eq_getElem hlt⟩;obtain⟨v,r⟩:=p;have hpm:(v,r)∈vr:=List.mem_of_getElem? hp;have hri:rs[i]?=some r:=by rw[←hrs,List.getElem?_map,hp];rfl
  have hd:rs.drop i=r::rs.drop (i+1):=by
   rw[List.drop_eq_getElem_cons (by omega)];congr 1;rw[List.getElem?_eq_getElem (by omega)]at hri;exact Option.some.inj hri
  have gb:=h.get hrb;have hvt:CX K v r.tests:=hv _ hpm;obtain⟨M1,hM1⟩:∃M1,(M.push (.cells true [(.slice none 0 0),(.int Go.IntKind.u32 (0:Int))])).set M.size (.cells true (BX (v,r)))=M1:=⟨_,rfl⟩;have gx:M1.get M.size= .cells true (BX (v,r)):=by rw[←hM1];exact Mem.get_set_same _ _ _
  have h1:Hp M1 K []:=h.ext (hM1▸Ext.fresh);obtain⟨ta0,tc0,hv0,_⟩:=id hvt
  have hst:Bx Tryz.prog (M.push (.cells true [(.slice none 0 0),(.int Go.IntKind.u32 (0:Int))])) 50 (.agg ⟨BX (v,r)⟩) (.pointer (some ⟨M.size,0,none⟩))=some M1:=by
   subst hv0;rw[Ce (n:=2) Ye rfl (Mem.get_push_same _ _) (by simp) rfl,←hM1];rfl
  by_cases h8:8<r.tests.length
  ·have e:C9 (rs.drop i) i=some (i,3):=by rw[hd,C9,if_pos h8]
   refine⟨M1,h1,λha=>(by rw[e]at ha;cases ha),λa e' ha x=>AD.stop (AD.turn ?_) (by simp)⟩;obtain⟨rfl,rfl⟩:i=a/\3=e':=by rw[e]at ha;cases ha;exact⟨rfl,rfl⟩
   refine AD.via (BW [5,8] Tryz.prog kp 1 _ (Y.lpOf Tryz.prog kp 1 (AJ Tryz.prog kp 1 o k) 36) (λ_ _ _ _ _ _ _=>rfl) 36 k (BK Tryz.f13 0) (by kernel_rfl) _ M _) ?_;refine AD.via (MZ ..) ?_;rw[ET hlt,AH];refine AD.via (BG _ _ _ (by kernel_rfl) _ _ _ _) ?_;refine AD.via (Jv ..) ?_;refine AD.via (By 5 ..) ?_;refine AD.via (P3 ..) ?_;rw[EH,Fg hlt,AH,gb,AR,Cs Bo hlt,AH,Cf Bo hp];refine AD.via (MG ..) ?_;rw[Y.storeF_eq,hst,Y.ob_some];refine AD.via (P4 ..) ?_;rw[gx,AR,show Y.nthL (BX (v,r)) 0=some v from rfl,BN,hv0,Dk,Ef (show(8:Int)<Int.ofNat r.tests.length by show(8:Int)< (r.tests.length:Int);omega),AH];exact AD.at (xj rfl rfl)
  ·have h8f:Y.ltF 8 (Int.ofNat r.tests.length)=false:=Cg (by show¬(8:Int)< (r.tests.length:Int);omega);obtain⟨ta,tc,M2,hve,h2,q1,q2⟩:=Yd (k:=k) (xb:=M.size) (rb:=rb) (rn:=vr.length) (rc:=rc) (i:=i) (rp:=rp) hO (by omega) (by omega) h0 hvt h1;cases hm:r.tests.all Dg with
   |true=>
    have e:C9 (rs.drop i) i=C9 (rs.drop (i+1)) (i+1):=by rw[hd,C9,if_neg h8,if_pos hm]
    obtain⟨M3,h3,w1,w2⟩:=O5 (rc:=rc) (rp:=rp) hO hk hlen hrs h0 hrb hv d (i+1) (by omega) jj M2 (by omega) h2;rw[e];refine⟨M3,h3,λha x=>AD.next (AD.turn ?_) (w1 ha),λa e' ha x=>AD.next (AD.turn ?_) (w2 a e' ha)⟩
    ·have hve':=hve;refine AD.via (BW [5,8] Tryz.prog kp 1 _ (Y.lpOf Tryz.prog kp 1 (AJ Tryz.prog kp 1 o k) 36) (λ_ _ _ _ _ _ _=>rfl) 36 k (BK Tryz.f13 0) (by kernel_rfl) _ M _) ?_;refine AD.via (MZ ..) ?_;rw[ET hlt,AH];refine AD.via (BG _ _ _ (by kernel_rfl) _ _ _ _) ?_;refine AD.via (Jv ..) ?_;refine AD.via (By 5 ..) ?_;refine AD.via (P3 ..) ?_;rw[EH,Fg hlt,AH,gb,AR,Cs Bo hlt,AH,Cf Bo hp];refine AD.via (MG ..) ?_;rw[Y.storeF_eq,hst,Y.ob_some];refine AD.via (P4 ..) ?_;rw[gx,AR,show Y.nthL (BX (v,r)) 0=some v from rfl,BN,hve,Dk,h8f,BH];refine AD.via (BG _ _ _ (by kernel_rfl) _ _ _ _) ?_;refine AD.via (MY ..) ?_;refine AD.via (Sx ..) ?_;rw[gx,AR,show Y.nthL (BX (v,r)) 0=some v from rfl,BN,hve',Dk];refine AD.via (Sy ..) ?_;refine AD.via (E5 _ _ (by kernel_rfl) _ _ _ _) ?_;rw[Y.lpOf_eq,ll];simp only[Int.ofNat_eq_natCast];refine AD.loop (q1 hm _) λx'=>?_;refine AD.via (Yf ..) ?_;rw[Ct (by omega)];exact AD.here _
    ·have hve':=hve;refine AD.via (BW [5,8] Tryz.prog kp 1 _ (Y.lpOf Tryz.prog kp 1 (AJ Tryz.prog kp 1 o k) 36) (λ_ _ _ _ _ _ _=>rfl) 36 k (BK Tryz.f13 0) (by kernel_rfl) _ M _) ?_;refine AD.via (MZ ..) ?_;rw[ET hlt,AH];refine AD.via (BG _ _ _ (by kernel_rfl) _ _ _ _) ?_;refine AD.via (Jv ..) ?_;refine AD.via (By 5 ..) ?_;refine AD.via (P3 ..) ?_;rw[EH,Fg hlt,AH,gb,AR,Cs Bo hlt,AH,Cf Bo hp];refine AD.via (MG ..) ?_;rw[Y.storeF_eq,hst,Y.ob_some];refine AD.via (P4 ..) ?_;rw[gx,AR,show Y.nthL (BX (v,r)) 0=some v from rfl,BN,hve,Dk,h8f,BH];refine AD.via (BG _ _ _ (by kernel_rfl) _ _ _ _) ?_;refine AD.via (MY ..) ?_;refine AD.via (Sx ..) ?_;rw[gx,AR,show Y.nthL (BX (v,r)) 0=some v from rfl,BN,hve',Dk];refine AD.via (Sy ..) ?_;refine AD.via (E5 _ _ (by kernel_rfl) _ _ _ _) ?_;rw[Y.lpOf_eq,ll];simp only[Int.ofNat_eq_natCast];refine AD.loop (q1 hm _) λx'=>?_;refine AD.via (Yf ..) ?_;rw[Ct (by omega)];exact AD.here _
   |false=>
    have e:C9 (rs.drop i) i=some (i,1):=by rw[hd,C9,if_neg h8,if_neg (by rw[hm];decide)]
    refine⟨M2,h2,λha=>(by rw[e]at ha;cases ha),λa e' ha x=>AD.stop (AD.turn ?_) (by simp)⟩;obtain⟨rfl,rfl⟩:i=a/\1=e':=by rw[e]at ha;cases ha;exact⟨rfl,rfl⟩
    have hve':=hve;refine AD.via (BW [5,8] Tryz.prog kp 1 _ (Y.lpOf Tryz.prog kp 1 (AJ Tryz.prog kp 1 o k) 36) (λ_ _ _ _ _ _ _=>rfl) 36 k (BK Tryz.f13 0) (by kernel_rfl) _ M _) ?_;refine AD.via (MZ ..) ?_;rw[ET hlt,AH];refine AD.via (BG _ _ _ (by kernel_rfl) _ _ _ _) ?_;refine AD.via (Jv ..) ?_;refine AD.via (By 5 ..) ?_;refine AD.via (P3 ..) ?_;rw[EH,Fg hlt,AH,gb,AR,Cs Bo hlt,AH,Cf Bo hp];refine AD.via (MG ..) ?_;rw[Y.storeF_eq,hst,Y.ob_some];refine AD.via (P4 ..) ?_;rw[gx,AR,show Y.nthL (BX (v,r)) 0=some v from rfl,BN,hve,Dk,h8f,BH];refine AD.via (BG _ _ _ (by kernel_rfl) _ _ _ _) ?_;refine AD.via (MY ..) ?_;refine AD.via (Sx ..) ?_;rw[gx,AR,show Y.nthL (BX (v,r)) 0=some v from rfl,BN,hve',Dk];refine AD.via (Sy ..) ?_;refine AD.via (E5 _ _ (by kernel_rfl) _ _ _ _) ?_;rw[Y.lpOf_eq,ll];simp only[Int.ofNat_eq_natCast];refine AD.loop (q2 hm _) λx'=>?_;refine AD.via (lu ..) ?_;exact AD.here _
theorem Yg{rs:List BA}{v:Value}(hO:Gu o)(hk:300<=k)(hv:CT K v rs)(h:Hp M K [])(h0:K 0=some (.cells false gl)):
  ∃M',AJ Tryz.prog kp 1 o k 13 [v] M=some (.tuple ⟨[.int .i64 ((Ee rs).1:Int), .int .i64 (Ee rs).2]⟩,M')/\Hp M' K []:=by
 obtain⟨k,rfl⟩:∃k',k=k'+1:=⟨k - 1,by omega⟩
 obtain⟨ra,rc,rfl,hv⟩:=hv
 by_cases h32:32<rs.length
 ·refine⟨M,CJ 36 (hO.off 13 (by decide) _ _) rH rK xi ?_ rL,h⟩;refine Eq.trans (Qp ..) ?_;rw[Ef (show(32:Int)<Int.ofNat rs.length by show(32:Int)< (rs.length:Int);omega),AH,Ee,if_pos h32];rfl
 ·have hf:Y.ltF 32 (Int.ofNat rs.length)=false:=Cg (by show¬(32:Int)< (rs.length:Int);omega)
  obtain⟨M',h',q1,q2⟩:∃M',Hp M' K []/\(C9 rs 0=none->∀x,AD 36 [(11, .slice ra rs.length rc),(12, .int .i64 (rs.length:Int)),(13, .int .i64 (rs.length:Int))] (.exit 0) M' (BT (AI Tryz.prog kp 1 (AJ Tryz.prog kp 1 o k) (AV Tryz.prog kp 1 (AJ Tryz.prog kp 1 o k) 36) 36 k (BK Tryz.f13 0)) k (AB 36 (up x [(11, .slice ra rs.length rc),(12, .int .i64 (rs.length:Int)),(13, .int .i64 (0:Int))])) M))/\
    (∀a e,C9 rs 0=some (a,e)->∀x,AD 36 [(2, .int .i64 (a:Int)),(3, .int .i64 e)] .ret M' (BT (AI Tryz.prog kp 1 (AJ Tryz.prog kp 1 o k) (AV Tryz.prog kp 1 (AJ Tryz.prog kp 1 o k) 36) 36 k (BK Tryz.f13 0)) k (AB 36 (up x [(11, .slice ra rs.length rc),(12, .int .i64 (rs.length:Int)),(13, .int .i64 (0:Int))])) M)):=by
   by_cases e:rs= []
   ·subst e;obtain⟨k,rfl⟩:∃k',k=k'+1:=⟨k - 1,by omega⟩;exact⟨M,h,λ_ x=>AD.stop (AD.turn (AD.via (dv ..) (AD.here _))) (by simp),λa e ha=>by cases ha⟩
   ·obtain⟨rb,rp,own,rest,vr,rfl,hrs,hrb,hvt⟩:=hv e;have hl2:rs.length=vr.length:=by rw[←hrs,List.length_map]
    obtain⟨M',h',q1,q2⟩:=O5 (k:=k) (rc:=rc) (rp:=rp) hO (by omega) (by omega) hrs h0 hrb hvt vr.length 0 (by omega) k M (by omega) h;rw[hl2];exact⟨M',h',q1,q2⟩
  refine⟨M',CJ 36 (hO.off 13 (by decide) _ _) rH rK xi ?_ rL,h'⟩;refine Eq.trans (Qp ..) ?_;rw[hf,BH,Ee,if_neg h32];rw[Y.lpOf_eq,Y.loopC_body];simp only[Int.ofNat_eq_natCast];cases hc:C9 rs 0 with
  |none=>
   refine Hr (q1 hc _) λx'=>?_;exact Wr ..
  |some p=>
   obtain⟨a,e⟩:=p;refine Hr (q2 a e hc _) λx'=>?_;exact Ws ..
end
end
end Go.Proofs.YtgjflcgmieiafaaGreatDoor
namespace Go.Proofs.YtgjflcgmieiafaaGreatDoor
open Go Go.DI Go.DI.Kit Go.Proofs Go.Cmp
noncomputable section
set_option maxHeartbeats 4000000
variable{α:Type}(x:Nat->Value)(cf:Y.CF α)(L:Y.LK α)(k:Nat)(m:Mem)
noncomputable def c8:Code:=D3 [3,6,7] (AM Tryz.f7)
noncomputable def dz:List Oper:=CA 3 (AM Tryz.f7)
noncomputable def eB:List Oper:=CA 6 (AM Tryz.f7)
noncomputable def eD:List Oper:=CA 7 (AM Tryz.f7)
noncomputable def c6:Code:=D3 [4] (BK Tryz.f6 0)
noncomputable def Wu:List Oper:=CA 4 (AM Tryz.f6)
theorem Ma(ra:Option Addr)(rn rc:Nat)(q:Value->Mem->Option α):Y.codeF c8 Tryz.prog kp 1 (Y.cfT Tryz.prog cf) L 24 k (AB 24 (Bv [.slice ra rn rc])) m (Y.retF Tryz.prog Tryz.f7 q)=
 (cf 13 [.slice ra rn rc] (Mem.push m (.cells true [.slice none 0 0,.slice none 0 0])) (λH F=>Y.asTup H (λI=>Y.unc (Array.toList I) (λa l=>Y.asInt a (λJ B=>cond (Y.kEq .i64 J) (Y.unc l (λN O=>Y.asInt N (λQ A=>cond (Y.kEq .i64 Q) (Y.unc O (λS T=>none) (cond (cond (Y.eqF A 0) false true) (L (λt m q=>Y.codeF (Y.loopC c8 0) Tryz.prog kp 1 (Y.cfT Tryz.prog cf) L 24 k t m q) (Y.loopC c8 0) k (AB 24 (up (up Go.DI.x0 [(0,.slice ra rn rc),(8,.slice ra rn rc),(4,.int .i64 B),(12,.int .i64 A),(10,.int .i64 B),(9,.tuple ⟨[.int .i64 B,.int .i64 A]⟩),(13,.bool true),(3,.int .i64 0),(11,.int .i64 A),(7,.tuple ⟨[.int .i64 B,.int .i64 A]⟩)]) [(2,.pointer (some ⟨Mem.size m,0,none⟩)),(5,.int .i64 A),(6,.tuple ⟨[]⟩)])) F (Y.kont Tryz.prog kp 1 (Y.cfT Tryz.prog cf) L 24 k c8 0 (Y.retF Tryz.prog Tryz.f7 q))) (cf 14 [.slice ra rn rc] F (λR G=>Y.asSl R (λD C E=>cond (Y.ltF 512 (Int.ofNat C)) (L (λt m q=>Y.codeF (Y.loopC c8 1) Tryz.prog kp 1 (Y.cfT Tryz.prog cf) L 24 k t m q) (Y.loopC c8 1) k (AB 24 (up (up Go.DI.x0 [(0,.slice ra rn rc),(16,.slice ra rn rc),(8,.slice ra rn rc),(4,.int .i64 B),(20,.bool true),(12,.int .i64 A),(18,.slice D C E),(10,.int .i64 B),(17,.slice D C E),(9,.tuple ⟨[.int .i64 B,.int .i64 A]⟩),(13,.bool false),(3,.int .i64 0),(19,.int .i64 (Int.ofNat C)),(11,.int .i64 A),(7,.tuple ⟨[.int .i64 B,.int .i64 A]⟩)]) [(2,.pointer (some ⟨Mem.size m,0,none⟩)),(5,.int .i64 A),(6,.slice D C E)])) G (Y.kont Tryz.prog kp 1 (Y.cfT Tryz.prog cf) L 24 k c8 1 (Y.retF Tryz.prog Tryz.f7 q))) (L (λt m q=>Y.codeF (Y.loopC c8 2) Tryz.prog kp 1 (Y.cfT Tryz.prog cf) L 24 k t m q) (Y.loopC c8 2) k (AB 24 (up (up Go.DI.x0 [(0,.slice ra rn rc),(16,.slice ra rn rc),(8,.slice ra rn rc),(4,.int .i64 B),(20,.bool false),(12,.int .i64 A),(18,.slice D C E),(10,.int .i64 B),(17,.slice D C E),(9,.tuple ⟨[.int .i64 B,.int .i64 A]⟩),(13,.bool false),(3,.int .i64 0),(19,.int .i64 (Int.ofNat C)),(11,.int .i64 A),(7,.tuple ⟨[.int .i64 B,.int .i64 A]⟩)]) [(2,.pointer (some ⟨Mem.size m,0,none⟩)),(5,.int .i64 A),(6,.slice D C E)])) G (Y.kont Tryz.prog kp 1 (Y.cfT Tryz.prog cf) L 24 k c8 2 (Y.retF Tryz.prog Tryz.f7 q)))) none)))) none) none) none) none) none) none))):=by kernel_rfl
theorem eM(tb:Nat)(e:Int)(q:Value->Mem->Option α):Y.kont Tryz.prog kp 1 (Y.cfT Tryz.prog cf) L 24 k c8 0 (Y.retF Tryz.prog Tryz.f7 q) .normal (AB 24 (up x [(2,.pointer (some ⟨tb,0,none⟩)),(3,.int .i64 e)])) m=
 (Y.cellsOf (Mem.get m tb) (λ_ A=>cond (Nat.ble 2 (Y.lenLF A)) (q (.tuple ⟨[.agg ⟨Y.subL A 0 2⟩,.int .i64 e]⟩) m) none)):=by kernel_rfl
theorem eK(tb:Nat)(e:Int)(q:Value->Mem->Option α):Y.kont Tryz.prog kp 1 (Y.cfT Tryz.prog cf) L 24 k c8 1 (Y.retF Tryz.prog Tryz.f7 q) .normal (AB 24 (up x [(2,.pointer (some ⟨tb,0,none⟩)),(3,.int .i64 e)])) m=
 (Y.cellsOf (Mem.get m tb) (λ_ A=>cond (Nat.ble 2 (Y.lenLF A)) (q (.tuple ⟨[.agg ⟨Y.subL A 0 2⟩,.int .i64 e]⟩) m) none)):=by kernel_rfl
theorem eL(tb:Nat)(e:Int)(q:Value->Mem->Option α):Y.kont Tryz.prog kp 1 (Y.cfT Tryz.prog cf) L 24 k c8 2 (Y.retF Tryz.prog Tryz.f7 q) .normal (AB 24 (up x [(2,.pointer (some ⟨tb,0,none⟩)),(3,.int .i64 e)])) m=
 (Y.cellsOf (Mem.get m tb) (λ_ A=>cond (Nat.ble 2 (Y.lenLF A)) (q (.tuple ⟨[.agg ⟨Y.subL A 0 2⟩,.int .i64 e]⟩) m) none)):=by kernel_rfl
theorem Yl(ra:Option Addr)(rn rc:Nat)(q:Value->Mem->Option α):Y.codeF (AM Tryz.f6) Tryz.prog kp 1 (Y.cfT Tryz.prog cf) L 22 k (AB 22 (Bv [.slice ra rn rc])) m (Y.retF Tryz.prog Tryz.f6 q)=
 (L (λt m q=>Y.codeF (Y.loopC (AM Tryz.f6) 0) Tryz.prog kp 1 (Y.cfT Tryz.prog cf) L 22 k t m q) (Y.loopC (AM Tryz.f6) 0) k (AB 22 (up (up Go.DI.x0 [(0,.slice ra rn rc),(2,.bool false),(6,.slice ra rn rc),(7,.int .i64 (Int.ofNat rn))]) [(3,.int .i64 (Int.ofNat rn)),(8,.slice ra rn rc),(9,.int .i64 (Int.ofNat rn)),(10,.int .i64 0)])) m (Y.kont Tryz.prog kp 1 (Y.cfT Tryz.prog cf) L 22 k (AM Tryz.f6) 0 (Y.retF Tryz.prog Tryz.f6 q))):=by kernel_rfl
theorem Yk(rb:Nat)(rp:Option Nat)(rn rc:Nat)(n i:Int)(q:Y.ExK α):Y.codeF c6 Tryz.prog kp 1 (Y.cfT Tryz.prog cf) L 22 k (AB 22 (up x [(3,.int .i64 n),(8,.slice (some ⟨rb,0,rp⟩) rn rc),(9,.int .i64 rn),(10,.int .i64 i)])) m q=
 (cond (Y.ltF i (Int.ofNat rn)) (L (λt m q=>Y.codeF (Y.loopC c6 0) Tryz.prog kp 1 (Y.cfT Tryz.prog cf) L 22 k t m q) (Y.loopC c6 0) k (AB 22 (up (up x [(11,.bool true)]) [(3,.int .i64 n),(8,.slice (some (Addr.mk rb 0 rp)) rn rc),(9,.int .i64 (Int.ofNat rn)),(10,.int .i64 i)])) m (Y.kont Tryz.prog kp 1 (Y.cfT Tryz.prog cf) L 22 k c6 0 q)) (q (Ex.exit 0) (AB 22 (up (up x [(11,.bool false)]) [(3,.int .i64 n),(8,.slice (some (Addr.mk rb 0 rp)) rn rc),(9,.int .i64 (Int.ofNat rn)),(10,.int .i64 i)])) m)):=by kernel_rfl
theorem mD(rb:Nat)(rp:Option Nat)(rn rc:Nat)(n i:Int)(q:AF->Mem->Option α):Y.opsF (List.take 3 Wu) Tryz.prog kp 1 (Y.cfT Tryz.prog cf) 22 Wu (AB 22 (up x [(3,.int .i64 n),(8,.slice (some ⟨rb,0,rp⟩) rn rc),(9,.int .i64 rn),(10,.int .i64 i)])) m q=
 (Y.onNat i (λA=>cond (Nat.blt A rn) (Y.cellsOf (Mem.get m rb) (λ_ B=>cond (Nat.ble (Nat.add (Nat.add 0 (Nat.mul A 2)) 2) (Y.lenLF B)) (q (AB 22 (up (up x [(12,.pointer (some ⟨rb,Nat.add 0 (Nat.mul A 2),none⟩))]) [(3,.int .i64 n),(5,.pointer (some ⟨Mem.size m,0,none⟩)),(8,.slice (some (Addr.mk rb 0 rp)) rn rc),(9,.int .i64 (Int.ofNat rn)),(10,.int .i64 i),(13,.agg ⟨Y.subL B (Nat.add 0 (Nat.mul A 2)) 2⟩)])) (Mem.push m (.cells true [.slice none 0 0,.int .u32 0]))) none)) none)):=by kernel_rfl
theorem mE(xb:Nat)(rb:Nat)(rp:Option Nat)(rn rc:Nat)(n i:Int)(q:Y.ExK α):Y.kont Tryz.prog kp 1 (Y.cfT Tryz.prog cf) L 22 k c6 0 q .normal (AB 22 (up x [(3,.int .i64 n),(5,.pointer (some ⟨xb,0,none⟩)),(8,.slice (some ⟨rb,0,rp⟩) rn rc),(9,.int .i64 rn),(10,.int .i64 i)])) m=
 (Y.cellsOf (Mem.get m xb) (λ_ B=>Option.elim (Y.nthL B 0) none (λC=>Y.asSl C (λD A E=>q .normal (AB 22 (up (up x [(16,.slice D A E),(18,.int .i64 (IntKind.wrap .i64 (Int.add n (Int.ofNat A)))),(14,.int .i64 n),(17,.int .i64 (Int.ofNat A)),(5,.pointer (some ⟨xb,0,none⟩)),(19,.int .i64 (IntKind.wrap .i64 (Int.add i 1))),(15,.pointer (some ⟨xb,0,none⟩))]) [(3,.int .i64 (IntKind.wrap .i64 (Int.add n (Int.ofNat A)))),(8,.slice (some (Addr.mk rb 0 rp)) rn rc),(9,.int .i64 (Int.ofNat rn)),(10,.int .i64 (IntKind.wrap .i64 (Int.add i 1)))])) m) none))):=by kernel_rfl
theorem Ww(n:Int)(w8 w9 w10:Value)(q:Value->Mem->Option α):Y.kont Tryz.prog kp 1 (Y.cfT Tryz.prog cf) L 22 k (AM Tryz.f6) 0 (Y.retF Tryz.prog Tryz.f6 q) (.exit 0) (AB 22 (up x [(3,.int .i64 n),(8,w8),(9,w9),(10,w10)])) m=
 (cond (Y.ltF 5000 n) (q (.bool true) m) (q (.bool false) m)):=by kernel_rfl
end
end Go.Proofs.YtgjflcgmieiafaaGreatDoor
namespace Go.Cmp
structure Dh(t:A8):Prop where
 mask:0<=t.mask/\t.mask<18446744073709551616
 lo:0<=t.lo/\t.lo<18446744073709551616
 hi:0<=t.hi/\t.hi<18446744073709551616
def Gv(rs:List BA):Prop:=∀r∈rs,∀t∈r.tests,Dh t
def xk(rs:List BA):Nat:=if(Ee rs).2=0 then(Bf (BS rs)).length else 0
def Fl(rs:List BA):Int:=if(Ee rs).2=0 then(if 512< (Bf (BS rs)).length then 3 else 0)else(Ee rs).2
def Cy(rs:List BA):List B9:=if Fl rs=0 then Bf (BS rs)else []
def G1(rs:List BA):Nat:=rs.length+(rs.map λr=>r.tests.length).sum
end Go.Cmp
namespace Go.Proofs.YtgjflcgmieiafaaGreatDoor
open Go Go.DI Go.DI.Kit Go.Proofs Go.Cmp
noncomputable section
theorem Wt{t:A8}(h:Dg t=true)(hr:Dh t):Fb t:=by
 unfold Dg at h
 split at h
 ·cases h
 ·split at h
  ·rename_i h2
   have hb:BY t=true->False:=by
    intro hb;simp only[BY,Bool.or_eq_true,decide_eq_true_eq]at hb;omega
   exact⟨by omega,λe=>(hb e).elim,λe=>(hb e).elim,hr.mask,hr.lo,hr.hi⟩
  ·split at h
   ·cases h
   ·split at h
    ·cases h
    ·rename_i h3 h4;simp only[decide_eq_true_eq]at h;exact⟨by omega,λ_=>⟨h.1,h.2.1⟩,λ_=>by unfold Uo;omega,hr.mask,hr.lo,hr.hi⟩
theorem HT:∀(rs:List BA) (i:Nat),C9 rs i=none->∀r∈rs,r.tests.length<=8/\r.tests.all Dg=true
 | [],i,_,r,hr=>by simp at hr
 |r::rs,i,h,r',hr=>by
  simp only[C9]at h;split at h
  ·cases h
  ·rename_i h8;split at h
   ·rename_i ha;rcases List.mem_cons.1 hr with rfl|hr
    ·exact⟨by omega,ha⟩
    ·exact HT rs (i+1) h r' hr
   ·cases h
theorem Hs:∀(rs:List BA) (i a:Nat) (e:Int),C9 rs i=some (a,e)->e=1\/e=3
 | [],i,a,e,h=>by cases h
 |r::rs,i,a,e,h=>by
  simp only[C9]at h;split at h
  ·right;cases h;rfl
  ·split at h
   ·exact Hs rs (i+1) a e h
   ·left;cases h;rfl
theorem O6{rs:List BA}(h:(Ee rs).2=0):rs.length<=32/\C9 rs 0=none:=by
 unfold Ee at h
 split at h
 ·cases h
 ·refine⟨by omega,?_⟩;cases hc:C9 rs 0 with
  |none=>rfl
  |some p=>
   obtain⟨a,e⟩:=p;rw[hc]at h;have:=Hs rs 0 a e hc;have h:e=0:=h;omega
theorem Sz{rs:List BA}(h:(Ee rs).2=0)(hr:Gv rs):P5 rs:=by
 obtain⟨h1,h2⟩:=O6 h
 have h3:=HT rs 0 h2
 exact⟨h1,λr hr'=>(h3 r hr').1,λr hr' t ht=>Wt (List.all_eq_true.1 (h3 r hr').2 t ht) (hr r hr' t ht)⟩
def Gi(M:Mem)(K:CH)(l:List B9)(v:Value):Prop:=∃a,v= .slice a l.length l.length/\(l≠ []->∃c,a=some ⟨c,0,some 5⟩/\c<M.size/\K c=none/\M.get c= .cells true (AE l))
theorem Gi.none(M:Mem)(K:CH):Gi M K [] (.slice none 0 0):=⟨_,rfl,λh=>absurd rfl h⟩
theorem Gi.weak{M:Mem}{K K':CH}{l:List B9}{v:Value}(h:Gi M K' l v)(hw:∀j x,K j=some x->K' j=some x):Gi M K l v:=by
 obtain⟨a,h1,h2⟩:=h
 refine⟨a,h1,λh0=>?_⟩
 obtain⟨c,q1,q2,q3,q4⟩:=h2 h0
 refine⟨c,q1,q2,?_,q4⟩
 cases hk:K c with
 |none=>rfl
 |some y=>rw[hw _ _ hk]at q3;cases q3
theorem dx{M:Mem}{K:CH}{mp:Nat}{l:List B9}{v:Value}(h:Hp M K [(mp,Hk l)])(hv:M.get mp= .cells true [v]):Gi M K l v:=by
 obtain⟨ht,hK,F,h1,h2,h3⟩:=h
 cases h1 with
 |cons hA hL=>
  rename_i b F;have hc:=hA.cells;rw[hv]at hc;have hc:v=uU b 5 l.length:=by simpa[Hk]using hc
  cases b with
  |none=>
   have h0:l.length=0:=hA.buf.1;exact⟨none,by rw[hc,h0];rfl,λhn=>absurd (List.eq_nil_of_length_eq_zero h0) hn⟩
  |some c=>
   exact⟨some ⟨c,0,some 5⟩,hc,λ_=>⟨c,rfl,(h3 c (by simp)).2,(h3 c (by simp)).1,hA.buf⟩⟩
theorem at8:Tryz.prog.funcs[7]?=some Tryz.f7:=by kernel_rfl
theorem ug:Tryz.f7.body=some (AM Tryz.f7):=by kernel_rfl
theorem nt8:Tryz.f7.ntmps=24:=by kernel_rfl
theorem n8{a:Value}:max [a].length Tryz.f7.ntmps=24:=by rw[nt8];rfl
theorem uh:Tryz.f12.ntmps=17:=by kernel_rfl
theorem xl{a:Value}:max [a].length Tryz.f12.ntmps=17:=by rw[uh];rfl
theorem at6:Tryz.prog.funcs[6]?=some Tryz.f6:=by kernel_rfl
theorem bd6:Tryz.f6.body=some (AM Tryz.f6):=by kernel_rfl
theorem nt6:Tryz.f6.ntmps=22:=by kernel_rfl
theorem n6{a:Value}:max [a].length Tryz.f6.ntmps=22:=by rw[nt6];rfl
theorem ok6{b:Bool}:I5 Tryz.prog 6 (.bool b)=true:=by kernel_rfl
theorem ui{a b:Option Addr}{n n' c c':Nat}{e:Int}:I5 Tryz.prog 7 (.tuple ⟨[.agg ⟨[.slice a n c, .slice b n' c']⟩, .int .i64 e]⟩)=true:=by kernel_rfl
theorem uj:Bz Tryz.prog 32=some 2:=by kernel_rfl
section
variable{α:Type}(x:Nat->Value)(cf:Y.CF α)(L:Y.LK α)(k:Nat)(m:Mem)
theorem dy(t:AF)(q:Y.ExK α):Y.codeF (Y.loopC c8 0) Tryz.prog kp 1 (Y.cfT Tryz.prog cf) L 24 k t m q=Y.opsF dz Tryz.prog kp 1 (Y.cfT Tryz.prog cf) 24 dz t m λt m=>q .normal t m:=by kernel_rfl
theorem eA(t:AF)(q:Y.ExK α):Y.codeF (Y.loopC c8 1) Tryz.prog kp 1 (Y.cfT Tryz.prog cf) L 24 k t m q=Y.opsF eB Tryz.prog kp 1 (Y.cfT Tryz.prog cf) 24 eB t m λt m=>q .normal t m:=by kernel_rfl
theorem eC(t:AF)(q:Y.ExK α):Y.codeF (Y.loopC c8 2) Tryz.prog kp 1 (Y.cfT Tryz.prog cf) L 24 k t m q=Y.opsF eD Tryz.prog kp 1 (Y.cfT Tryz.prog cf) 24 eD t m λt m=>q .normal t m:=by kernel_rfl
theorem ly(b:Nat)(e:Int)(w6:Value)(q:AF->Mem->Option α):Y.opsF dz Tryz.prog kp 1 (Y.cfT Tryz.prog cf) 24 dz (AB 24 (up x [(2, .pointer (some ⟨b,0,none⟩)),(5, .int .i64 e),(6,w6)])) m q=
 Y.storeF Tryz.prog m 32 (.agg ⟨[.slice none 0 0, .slice none 0 0]⟩) (.pointer (some ⟨b,0,none⟩)) λm'=>q (AB 24 (up (up x [(5, .int .i64 e),(6,w6),(14, .agg ⟨[.slice none 0 0, .slice none 0 0]⟩),(15, .int .i64 e)]) [(2, .pointer (some ⟨b,0,none⟩)),(3, .int .i64 e)])) m':=by kernel_rfl
theorem mB(b:Nat)(e:Int)(w6:Value)(q:AF->Mem->Option α):Y.opsF eB Tryz.prog kp 1 (Y.cfT Tryz.prog cf) 24 eB (AB 24 (up x [(2, .pointer (some ⟨b,0,none⟩)),(5, .int .i64 e),(6,w6)])) m q=
 Y.storeF Tryz.prog m 32 (.agg ⟨[.slice none 0 0, .slice none 0 0]⟩) (.pointer (some ⟨b,0,none⟩)) λm'=>q (AB 24 (up (up x [(5, .int .i64 e),(6,w6),(21, .agg ⟨[.slice none 0 0, .slice none 0 0]⟩)]) [(2, .pointer (some ⟨b,0,none⟩)),(3, .int .i64 (3:Int))])) m':=by kernel_rfl
theorem mC(b:Nat)(e:Int)(a:Option Addr)(n c:Nat)(q:AF->Mem->Option α):Y.opsF eD Tryz.prog kp 1 (Y.cfT Tryz.prog cf) 24 eD (AB 24 (up x [(2, .pointer (some ⟨b,0,none⟩)),(5, .int .i64 e),(6, .slice a n c)])) m q=
 Y.storeF Tryz.prog m 32 (.agg ⟨[.slice none 0 0, .slice a n c]⟩) (.pointer (some ⟨b,0,none⟩)) λm'=>q (AB 24 (up (up x [(5, .int .i64 e),(6, .slice a n c),(22, .slice a n c),(23, .agg ⟨[.slice none 0 0, .slice a n c]⟩)]) [(2, .pointer (some ⟨b,0,none⟩)),(3, .int .i64 (0:Int))])) m':=by kernel_rfl
theorem eE(t:AF)(q:Y.ExK α):Y.codeF (Y.loopC c6 0) Tryz.prog kp 1 (Y.cfT Tryz.prog cf) L 22 k t m q=Y.opsF Wu Tryz.prog kp 1 (Y.cfT Tryz.prog cf) 22 Wu t m λt m=>q .normal t m:=by kernel_rfl
theorem eF(b:Nat)(w3 w8 w9 w10 u:Value)(q:AF->Mem->Option α):Y.opsF (List.drop 3 Wu) Tryz.prog kp 1 (Y.cfT Tryz.prog cf) 22 Wu (AB 22 (up x [(3,w3),(5, .pointer (some ⟨b,0,none⟩)),(8,w8),(9,w9),(10,w10),(13,u)])) m q=
 Y.storeF Tryz.prog m 55 u (.pointer (some ⟨b,0,none⟩)) λm'=>q (AB 22 (up (up x [(13,u)]) [(3,w3),(5, .pointer (some ⟨b,0,none⟩)),(8,w8),(9,w9),(10,w10)])) m':=by kernel_rfl
theorem eG(w3 w8:Value)(q:Y.ExK α):Y.codeF (BK Tryz.f6 0) Tryz.prog kp 1 (Y.cfT Tryz.prog cf) L 22 k (AB 22 (up x [(3,w3),(8,w8),(9, .int .i64 (0:Nat)),(10, .int .i64 (0:Int))])) m q=
 q (.exit 0) (AB 22 (up (up x [(11, .bool false)]) [(3,w3),(8,w8),(9, .int .i64 (0:Nat)),(10, .int .i64 (0:Int))])) m:=by kernel_rfl
end
theorem Yb:Bz Tryz.prog 55=some 2:=by kernel_rfl
section
variable{K:CH}{M:Mem}{o:C1}{k:Nat}
theorem Hp.unbox{b:Nat}{x y:BI}{hs:List (Nat×Bw)}(h:Hp M (EE K b x) hs)(hk:K b=none):Hp (M.set b y) K hs:=by
 obtain⟨ht,hK,F,h1,h2,h3⟩:=h
 have hb:=(hK b x (BM ..)).1
 refine⟨FQ ht hb,λj z hj=>?_,F,h1.mono λj hj=>Mem.get_set_ne _ ?_ _,h2,λj hj=>?_⟩
 ·have hne:j≠b:=by rintro rfl;rw[hk]at hj;cases hj
  have:=hK j z (by rw[C0 hne];exact hj);exact⟨this.1,(Mem.get_set_ne _ hne _).trans this.2⟩
 ·rintro rfl;have:=(h3 _ hj).1;rw[BM]at this;cases this
 ·have:=h3 j hj;have hne:j≠b:=by rintro rfl;rw[BM]at this;cases this.1
  rw[C0 hne]at this;exact this
theorem JQ{b:Nat}{u v u' v':Option Addr}{n c n' c' n2 c2 n3 c3:Nat}(hg:M.get b= .cells true [.slice u n c, .slice v n' c']):
  Bx Tryz.prog M 32 (.agg ⟨[.slice u' n2 c2, .slice v' n3 c3]⟩) (.pointer (some ⟨b,0,none⟩))=some (M.set b (.cells true [.slice u' n2 c2, .slice v' n3 c3])):=by
 rw[Ce (n:=2) uj rfl hg (by simp) rfl]
 rfl
theorem eI{rs:List BA}{v:Value}(hO:Gu o)(hk:100000+200<=k)(hr:Gv rs)(hv:CT K v rs)(h:Hp M K [])(h0:K 0=some (.cells false gl)):
  ∃v' M',AJ Tryz.prog kp 1 o k 7 [v] M=some (.tuple ⟨[.agg ⟨[.slice none 0 0,v']⟩, .int .i64 (Fl rs)]⟩,M')/\Hp M' K []/\Gi M' K (Cy rs) v'/\M.size<=M'.size:=by
 obtain⟨k,rfl⟩:∃k',k=k'+1:=⟨k - 1,by omega⟩
 obtain⟨ra,rc,hve,_⟩:=id hv
 have hKM:=h.no (Nat.le_refl M.size)
 have hbx:=h.boxP (.cells true [.slice none 0 0, .slice none 0 0])
 have hv1:=hv.mono hbx.2
 have h01:=hbx.2 _ _ h0
 obtain⟨M1,c1,h1⟩:=Yg (k:=k) hO (by omega) hv1 hbx.1 h01
 have g1:=h1.get (BM ..)
 have s1:=h1.lt (BM K M.size _)
 by_cases he:(Ee rs).2=0
 ·have hT:=Sz he hr;obtain⟨v',M2,mp,c2,g2',h2⟩:=eJ (k:=k) hO (by omega) hT hv1 h1 h01;obtain⟨a,rfl,hcode⟩:=dx h2 g2';have g2:=h2.get (BM ..);have s2:=h2.lt (BM K M.size _);by_cases hl:512< (Bf (BS rs)).length
  ·have ee:Fl rs=3:=by rw[Fl,if_pos he,if_pos hl]
   have eo:Cy rs= []:=by rw[Cy,if_neg (by rw[ee];decide)]
   refine⟨.slice none 0 0,M2.set M.size (.cells true [.slice none 0 0, .slice none 0 0]),CJ 24 (hO.off 7 (by decide) _ _) at8 ug n8 ?_ ui,(Hp.unbox h2 hKM).tail,by rw[eo];exact Gi.none _ _,by show M.size<=M2.size;omega⟩;subst hve;refine Eq.trans (BW [3,6,7] Tryz.prog kp 1 _ (Y.lpOf Tryz.prog kp 1 (AJ Tryz.prog kp 1 o k) 24) (λ_ _ _ _ _ _ _=>rfl) 24 k (AM Tryz.f7) (by kernel_rfl) _ M _) ?_;refine Eq.trans (Ma ..) ?_;refine step c1 ?_;rw[P6,Mb,BF,CN,AH,Mb,BF,CN,AH,Up,HU,Bp he,AH];refine step c2 ?_;rw[Dk,Ef (show(512:Int)<Int.ofNat (Bf (BS rs)).length by show(512:Int)< ((Bf (BS rs)).length:Int);omega),AH,ee];refine Eq.trans (BG _ _ _ (by kernel_rfl) _ _ _ _) ?_;refine Eq.trans (eA ..) ?_;refine Eq.trans (mB ..) ?_;rw[Y.storeF_eq,JQ g2,Y.ob_some];refine Eq.trans (eK ..) ?_;rw[Mem.get_set_same,AR];rfl
  ·have ee:Fl rs=0:=by rw[Fl,if_pos he,if_neg hl]
   have eo:Cy rs=Bf (BS rs):=by rw[Cy,if_pos ee]
   refine⟨.slice a (Bf (BS rs)).length (Bf (BS rs)).length,M2.set M.size (.cells true [.slice none 0 0, .slice a (Bf (BS rs)).length (Bf (BS rs)).length]),CJ 24 (hO.off 7 (by decide) _ _) at8 ug n8 ?_ ui,(Hp.unbox h2 hKM).tail,?_,by show M.size<=M2.size;omega⟩
   ·subst hve;refine Eq.trans (BW [3,6,7] Tryz.prog kp 1 _ (Y.lpOf Tryz.prog kp 1 (AJ Tryz.prog kp 1 o k) 24) (λ_ _ _ _ _ _ _=>rfl) 24 k (AM Tryz.f7) (by kernel_rfl) _ M _) ?_;refine Eq.trans (Ma ..) ?_;refine step c1 ?_;rw[P6,Mb,BF,CN,AH,Mb,BF,CN,AH,Up,HU,Bp he,AH];refine step c2 ?_;rw[Dk,Cg (show¬(512:Int)<Int.ofNat (Bf (BS rs)).length by show¬(512:Int)< ((Bf (BS rs)).length:Int);omega),BH,ee];refine Eq.trans (BG _ _ _ (by kernel_rfl) _ _ _ _) ?_;refine Eq.trans (eC ..) ?_;refine Eq.trans (mC ..) ?_;rw[Y.storeF_eq,JQ g2,Y.ob_some];refine Eq.trans (eL ..) ?_;rw[Mem.get_set_same,AR];rfl
   ·rw[eo];refine⟨a,rfl,λhne=>?_⟩;obtain⟨c,q1,q2,q3,q4⟩:=hcode hne;have hcne:c≠M.size:=by rintro rfl;rw[BM]at q3;cases q3
    rw[C0 hcne]at q3;exact⟨c,q1,q2,q3,(Mem.get_set_ne _ hcne _).trans q4⟩
 ·have ee:Fl rs=(Ee rs).2:=by rw[Fl,if_neg he]
  have eo:Cy rs= []:=by rw[Cy,if_neg (by rw[ee];exact he)]
  refine⟨.slice none 0 0,M1.set M.size (.cells true [.slice none 0 0, .slice none 0 0]),CJ 24 (hO.off 7 (by decide) _ _) at8 ug n8 ?_ ui,Hp.unbox h1 hKM,by rw[eo];exact Gi.none _ _,by show M.size<=M1.size;omega⟩;subst hve;refine Eq.trans (BW [3,6,7] Tryz.prog kp 1 _ (Y.lpOf Tryz.prog kp 1 (AJ Tryz.prog kp 1 o k) 24) (λ_ _ _ _ _ _ _=>rfl) 24 k (AM Tryz.f7) (by kernel_rfl) _ M _) ?_;refine Eq.trans (Ma ..) ?_;refine step c1 ?_;rw[P6,Mb,BF,CN,AH,Mb,BF,CN,AH,Up,HU,Bs he,BH,ee];refine Eq.trans (BG _ _ _ (by kernel_rfl) _ _ _ _) ?_;refine Eq.trans (dy ..) ?_;refine Eq.trans (ly ..) ?_;rw[Y.storeF_eq,JQ g1,Y.ob_some];refine Eq.trans (eM ..) ?_;rw[Mem.get_set_same,AR];rfl
theorem Yh{l:List BA}{i:Nat}{r:BA}(h:l[i]?=some r):((l.take (i+1)).map λr=>r.tests.length).sum=((l.take i).map λr=>r.tests.length).sum+r.tests.length:=by
 rw[List.take_add_one,h,Option.toList_some,List.map_append,List.sum_append]
 simp
def Hf(rs:List BA):Int:=IntKind.wrap .i64 (G1 rs:Int)
def Qq(rs:List BA)(i:Nat):Int:=IntKind.wrap .i64 ((rs.length+((rs.take i).map λr=>r.tests.length).sum:Nat):Int)
theorem JR{i:Nat}(h:i<=4611686018427387904):IntKind.wrap .i64 (Int.add (i:Int) (1:Int))=((i+1:Nat):Int):=IntWalk.i64_in _ (by show _<=(i:Int)+1/\(i:Int)+1<=_;omega)
theorem Yi{rs:List BA}{i:Nat}{r:BA}(h:rs[i]?=some r):IntKind.wrap .i64 (Int.add (Qq rs i) (Int.ofNat r.tests.length))=Qq rs (i+1):=by
 unfold Qq
 rw[Yh h]
 show IntKind.wrap .i64 (IntKind.wrap .i64 _+(r.tests.length:Int))=_
 simp only[IntKind.wrap_i64]
 omega
theorem Yj{rs:List BA}(h:rs.length*32<=140737488355328):Qq rs 0=(rs.length:Int):=by
 unfold Qq
 rw[List.take_zero]
 exact IntWalk.i64_in _ (by show _<=((rs.length+0:Nat):Int)/\((rs.length+0:Nat):Int)<=_;omega)
theorem eN(rs:List BA):Qq rs rs.length=Hf rs:=by
 unfold Qq Hf G1
 rw[List.take_length]
theorem O7{rs:List BA}{rest:List Value}{vr:List (Value×BA)}{own:Bool}{rb rc:Nat}{rp:Option Nat}(hlen:rs.length*32<=140737488355328)(hrs:vr.map (·.2)=rs)(hrb:K rb=some (.cells own (vr.flatMap BX++rest)))(hv:∀x∈vr,CX K x.1 x.2.tests):
  ∀(d i:Nat),vr.length=i+d->∀(jj:Nat) (M:Mem),d+1<=jj->Hp M K []->
  ∃M',(∀x,AD 22 [(3, .int .i64 (Hf rs)),(8, .slice (some ⟨rb,0,rp⟩) vr.length rc),(9, .int .i64 (vr.length:Int)),(10, .int .i64 (vr.length:Int))] (.exit 0) M' (BT (AI Tryz.prog kp 1 (AJ Tryz.prog kp 1 o k) (AV Tryz.prog kp 1 (AJ Tryz.prog kp 1 o k) 22) 22 k (BK Tryz.f6 0)) jj (AB 22 (up x [(3, .int .i64 (Qq rs i)),(8, .slice (some ⟨rb,0,rp⟩) vr.length rc),(9, .int .i64 (vr.length:Int)),(10, .int .i64 (i:Int))])) M))/\Hp M' K []
 |0,i,hi,jj,M,hjj,h=>by
  obtain⟨jj,rfl⟩:∃j',jj=j'+1:=⟨jj - 1,by omega⟩;obtain rfl:i=vr.length:=by omega
  have hl:rs.length=vr.length:=by rw[←hrs,List.length_map]
  refine⟨M,λx=>AD.stop (AD.turn ?_) (by simp),h⟩;refine AD.via (BW [4] Tryz.prog kp 1 _ (Y.lpOf Tryz.prog kp 1 (AJ Tryz.prog kp 1 o k) 22) (λ_ _ _ _ _ _ _=>rfl) 22 k (BK Tryz.f6 0) (by kernel_rfl) _ M _) ?_;refine AD.via (Yk ..) ?_;rw[Gh (by omega),BH,←hl,eN];exact AD.here _
 |d+1,i,hi,jj,M,hjj,h=>by
  obtain⟨jj,rfl⟩:∃j',jj=j'+1:=⟨jj - 1,by omega⟩;have hl:rs.length=vr.length:=by rw[←hrs,List.length_map]
  have hlt:i<vr.length:=by omega
  obtain⟨p,hp⟩:∃p,vr[i]?=some p:=⟨_,List.getElem?_eq_getElem hlt⟩;obtain⟨v,r⟩:=p;have hpm:(v,r)∈vr:=List.mem_of_getElem? hp;have hri:rs[i]?=some r:=by rw[←hrs,List.getElem?_map,hp];rfl
  have gb:=h.get hrb;have hvt:CX K v r.tests:=hv _ hpm;obtain⟨ta,tc,rfl,_⟩:=hvt;obtain⟨M1,hM1⟩:∃M1,(M.push (.cells true [(.slice none 0 0),(.int Go.IntKind.u32 (0:Int))])).set M.size (.cells true (BX (.slice ta r.tests.length tc,r)))=M1:=⟨_,rfl⟩;have gx:M1.get M.size= .cells true (BX (.slice ta r.tests.length tc,r)):=by rw[←hM1];exact Mem.get_set_same _ _ _
  have h1:Hp M1 K []:=h.ext (hM1▸Ext.fresh)
  have hst:Bx Tryz.prog (M.push (.cells true [(.slice none 0 0),(.int Go.IntKind.u32 (0:Int))])) 55 (.agg ⟨BX (.slice ta r.tests.length tc,r)⟩) (.pointer (some ⟨M.size,0,none⟩))=some M1:=by
   rw[Ce (n:=2) Yb rfl (Mem.get_push_same _ _) (by simp) rfl,←hM1];rfl
  obtain⟨M2,h2,h3⟩:=O7 (rc:=rc) (rp:=rp) hlen hrs hrb hv d (i+1) (by omega) jj M1 (by omega) h1;refine⟨M2,λx=>AD.next (AD.turn ?_) h2,h3⟩;refine AD.via (BW [4] Tryz.prog kp 1 _ (Y.lpOf Tryz.prog kp 1 (AJ Tryz.prog kp 1 o k) 22) (λ_ _ _ _ _ _ _=>rfl) 22 k (BK Tryz.f6 0) (by kernel_rfl) _ M _) ?_;refine AD.via (Yk ..) ?_;rw[ET hlt,AH];refine AD.via (BG _ _ _ (by kernel_rfl) _ _ _ _) ?_;refine AD.via (eE ..) ?_;refine AD.via (By 3 ..) ?_;refine AD.via (mD ..) ?_;rw[EH,Fg hlt,AH,gb,AR,Cs Bo hlt,AH,Cf Bo hp];refine AD.via (eF ..) ?_;rw[Y.storeF_eq,hst,Y.ob_some];refine AD.via (mE ..) ?_;rw[gx,AR,show Y.nthL (BX (Value.slice ta r.tests.length tc,r)) 0=some (.slice ta r.tests.length tc)from rfl,BN,Dk,JR (by omega),Yi hri];exact AD.here _
theorem eO{rs:List BA}{v:Value}(hO:Gu o)(hk:rs.length+100<=k)(hlen:rs.length*32<=140737488355328)(hv:CT K v rs)(h:Hp M K []):
  ∃M',AJ Tryz.prog kp 1 o k 6 [v] M=some (.bool (decide (5000<Hf rs)),M')/\Hp M' K []:=by
 obtain⟨k,rfl⟩:∃k',k=k'+1:=⟨k - 1,by omega⟩
 obtain⟨ra,rc,rfl,hv⟩:=hv
 obtain⟨M',hloop,h'⟩:∃M',(∀x,AD 22 [(3, .int .i64 (Hf rs)),(8, .slice ra rs.length rc),(9, .int .i64 (rs.length:Int)),(10, .int .i64 (rs.length:Int))] (.exit 0) M' (BT (AI Tryz.prog kp 1 (AJ Tryz.prog kp 1 o k) (AV Tryz.prog kp 1 (AJ Tryz.prog kp 1 o k) 22) 22 k (BK Tryz.f6 0)) k (AB 22 (up x [(3, .int .i64 (rs.length:Int)),(8, .slice ra rs.length rc),(9, .int .i64 (rs.length:Int)),(10, .int .i64 (0:Int))])) M))/\Hp M' K []:=by
  by_cases e:rs= []
  ·subst e;obtain⟨k,rfl⟩:∃k',k=k'+1:=⟨k - 1,by omega⟩;have e0:Hf []=0:=IntWalk.i64_in 0 (by omega);rw[e0];exact⟨M,λx=>AD.stop (AD.turn (AD.via (eG ..) (AD.here _))) (by simp),h⟩
  ·obtain⟨rb,rp,own,rest,vr,rfl,hrs,hrb,hvt⟩:=hv e;have hl2:rs.length=vr.length:=by rw[←hrs,List.length_map]
   obtain⟨M',q1,q2⟩:=O7 (o:=o) (k:=k) (rc:=rc) (rp:=rp) hlen hrs hrb hvt vr.length 0 (by omega) k M (by omega) h;refine⟨M',λx=>?_,q2⟩;have:=q1 x;rw[←hl2,Yj hlen]at this;exact this
 refine⟨M',CJ 22 (hO.off 6 (by decide) _ _) at6 bd6 n6 ?_ ok6,h'⟩
 refine Eq.trans (Yl ..) ?_
 rw[Y.lpOf_eq,Y.loopC_body]
 simp only[Int.ofNat_eq_natCast]
 refine Hr (hloop _) λx'=>?_
 refine Eq.trans (Ww ..) ?_
 by_cases hc:5000<Hf rs
 ·rw[decide_eq_true hc,Ef hc,AH]
 ·rw[decide_eq_false hc,Cg hc,BH]
end
end
end Go.Proofs.YtgjflcgmieiafaaGreatDoor
namespace Go.DI
open Go.RowKit Go.ChangeShapes Go.WideShapes
inductive Dt where
 |bo (b:Bool)
 |int (k:IntKind) (n:Int)
 |str (s:ByteArray)
 |nil
 |sl (l:List Dt) (cap:Nat)
 |ag (l:List Dt)
mutual
def Gx(m:Mem):Dt->List Value->Prop
 | .bo b,cs=>cs= [.bool b]
 | .int k n,cs=>cs= [.int k n]
 | .str s,cs=>cs= [.string s]
 | .nil,cs=>cs= [.slice none 0 0]
 | .sl l cap,cs=>∃b sp c,cs= [.slice (some ⟨b,0,sp⟩) l.length cap]/\b<m.size/\m.get b= .cells false c/\Ew m l c/\(sp=none\/l= []/\cap=0)
 | .ag l,cs=>Ew m l cs
def Ew(m:Mem):List Dt->List Value->Prop
 | [],cs=>cs= []
 |d::l,cs=>∃c1 c2,cs=c1++c2/\Gx m d c1/\Ew m l c2
end
def JV{α β:Type}(R:α->β->Prop):List α->List β->Prop
 | [],[]=>True
 |a::l,b::l'=>R a b/\JV R l l'
 |_,_=>False
theorem Ht{α β:Type}{R:α->β->Prop}{l':List β}(h:JV R [] l'):l'= []:=by cases l'<;>simp_all [JV]
theorem Ch{α β:Type}{R:α->β->Prop}{a:α}{l:List α}{l':List β}(h:JV R (a::l) l'):∃b t,l'=b::t/\R a b/\JV R l t:=by
 cases l' with
 |nil=>exact h.elim
 |cons b t=>exact⟨b,t,rfl,h.1,h.2⟩
theorem GI{α β:Type}{R:α->β->Prop}{a:α}:∀{n:Nat} {l:List β},JV R (List.replicate n a) l->l.length=n/\∀x∈l,R a x
 |0,l,h=>by rw[List.replicate_zero]at h;rw[Ht h];simp
 |n+1,l,h=>by
  rw[List.replicate_succ]at h;obtain⟨b,t,rfl,h1,h2⟩:=Ch h;obtain⟨g1,g2⟩:=GI h2;refine⟨by simp[g1],λx hx=>?_⟩;rcases List.mem_cons.1 hx with rfl|hx
  ·exact h1
  ·exact g2 x hx
section
variable{P:Program}
def Typed(P:Program):Nat->TypeId->Dt->Prop
 |0,_,_=>False
 |n+1,t,d=>match P.underlying t with
  |some .bool=>∃b,d= .bo b
  |some (.int k)=>∃x,d= .int k x/\(Lit.int k x).wf=true
  |some .string=>∃s,d= .str s/\s.size<=maxLen
  |some (.slice e)=>d= .nil\/∃l cap,d= .sl l cap/\l.length<=cap/\cap<=maxLen/\∀x∈l,Typed P n e x
  |some (.struct fs)=>∃l,d= .ag l/\JV (λf x=>Typed P n f x) (fs.toList.map (·.type)) l
  |some (.array k e)=>∃l,d= .ag l/\l.length=k/\∀x∈l,Typed P n e x
  |_=>False
def LC(P:Program)(tot:Nat):Nat->List Field->Bool
 |off,[]=>Nat.beq off tot
 |off,f::l=>Nat.beq f.offset off && LC P tot (off+P.cellsOf f.type) l
def Fh(P:Program):Nat->TypeId->Bool
 |0,_=>false
 |n+1,t=>match P.underlying t with
  |some .bool=>true
  |some (.int _)=>true
  |some .string=>true
  |some (.slice e)=>Nat.blt 0 (P.cellsOf e) && Fh P n e
  |some (.struct fs)=>(fs.toList.all λf=>Fh P n f.type) && LC P (P.cellsOf t) 0 fs.toList
  |some (.array k e)=>Fh P n e && Nat.beq (P.cellsOf t) (k*P.cellsOf e)
  |_=>false
structure R0(G B0:Nat)(ι:Ren)(m:Mem)(w:World):Prop where
 rel:Rel B0 G ι m w
 fresh:∀b,m.size<=b->ι b=none
 lo:G<=m.size
structure Oo(ι ι':Ren)(m m':Mem):Prop where
 ren:ι.le ι'
 size:m.size<=m'.size
 get:∀b,b<m.size->m'.get b=m.get b
theorem Oo.refl(ι:Ren)(m:Mem):Oo ι ι m m:=⟨λ_ _ h=>h,Nat.le_refl _,λ_ _=>rfl⟩
theorem Oo.trans{ι ι₁ ι₂:Ren}{m m₁ m₂:Mem}(h:Oo ι ι₁ m m₁)(k:Oo ι₁ ι₂ m₁ m₂):Oo ι ι₂ m m₂:=
 ⟨λb L hb=>k.ren _ _ (h.ren _ _ hb),Nat.le_trans h.size k.size,λb hb=>(k.get b (Nat.lt_of_lt_of_le hb h.size)).trans (h.get b hb)⟩
mutual
theorem Gx.ext{ι ι':Ren}{m m':Mem}(e:Oo ι ι' m m'):∀(d:Dt) (cs:List Value),Gx m d cs->Gx m' d cs
 | .bo _,_,h=>by simpa only[Gx]using h
 | .int _ _,_,h=>by simpa only[Gx]using h
 | .str _,_,h=>by simpa only[Gx]using h
 | .nil,_,h=>by simpa only[Gx]using h
 | .sl l cap,cs,h=>by
  simp only[Gx]at h ⊢;obtain⟨b,sp,c,h1,h2,h3,h4,h5⟩:=h;exact⟨b,sp,c,h1,Nat.lt_of_lt_of_le h2 e.size,(e.get b h2).trans h3,Ew.ext e l c h4,h5⟩
 | .ag l,cs,h=>by
  simp only[Gx]at h ⊢;exact Ew.ext e l cs h
theorem Ew.ext{ι ι':Ren}{m m':Mem}(e:Oo ι ι' m m'):∀(l:List Dt) (cs:List Value),Ew m l cs->Ew m' l cs
 | [],_,h=>by simpa only[Ew]using h
 |d::l,cs,h=>by
  simp only[Ew]at h ⊢;obtain⟨c1,c2,h1,h2,h3⟩:=h;exact⟨c1,c2,h1,Gx.ext e d c1 h2,Ew.ext e l c2 h3⟩
end
theorem R0.push{G B0:Nat}{ι:Ren}{m:Mem}{w:World}(h:R0 G B0 ι m w)(c:List Value)(L:Loc)(hL:L.block<B0)(hb:Bg B0 ι (.cells false c) L w):
  R0 G B0 (λb=>if b=m.size then some L else ι b) (m.push (.cells false c)) w/\Oo ι (λb=>if b=m.size then some L else ι b) m (m.push (.cells false c)):=by
 have hn:=h.fresh m.size (Nat.le_refl _)
 have hle:ι.le (λb=>if b=m.size then some L else ι b):=by
  intro b L' hb;have:b≠m.size:=by intro e;rw[e,hn]at hb;cases hb
  simp[this,hb]
 have hr:=h.rel
 refine⟨⟨⟨λb L' hb' hL'=>?_,λb₁ b₂ L₁ L₂ h1 h2 h3 h4 l1 l2 g0 e=>?_,hr.floor,λg hg=>(by obtain⟨L',h1,h2⟩:=hr.glob g hg;have:=h.lo;exact⟨L',by simp[show g≠m.size by omega,h1],h2⟩),λb hb'=>?_⟩,λb hb'=>?_,by have:=h.lo;simp;omega⟩,⟨hle,by simp,λb hb'=>Mem.get_push_ne _ (by omega) _⟩⟩
 ·rw[Mem.get_push];by_cases e:b=m.size
  ·subst e;simp at hL';subst hL';simpa using hb.mono hle rfl
  ·simp only[e,if_false]at hL' ⊢;simp at hb';exact(hr.blk b L' (by omega) hL').mono hle rfl
 ·simp at h1 h2;by_cases e1:b₁=m.size
  ·simp[e1]at h3;subst h3;omega
  ·by_cases e2:b₂=m.size
   ·simp[e2]at h4;subst h4;omega
   ·simp[e1]at h3;simp[e2]at h4;rw[Mem.get_push_ne _ e1]at l1;rw[Mem.get_push_ne _ e2]at l2;exact hr.inj b₁ b₂ L₁ L₂ (by omega) (by omega) h3 h4 l1 l2 g0 e
 ·simp at hb';rw[Mem.get_push_ne _ (by omega)];exact hr.top b (by omega)
 ·simp at hb';have:b≠m.size:=by omega
  simp only[this,if_false];exact h.fresh b (by omega)
theorem R0.blank{G B0:Nat}{ι:Ren}{m:Mem}{w:World}(h:R0 G B0 ι m w):R0 G B0 ι (m.push (.cells false [])) w/\Oo ι ι m (m.push (.cells false [])):=by
 have hn:=h.fresh m.size (Nat.le_refl _)
 have hr:=h.rel
 refine⟨⟨⟨λb L' hb' hL'=>?_,λb₁ b₂ L₁ L₂ h1 h2 h3 h4 l1 l2 g0 e=>?_,hr.floor,λg hg=>hr.glob g hg,λb hb'=>?_⟩,λb hb'=>h.fresh b (by simp at hb';omega),by have:=h.lo;simp;omega⟩,⟨λ_ _ h=>h,by simp,λb hb'=>Mem.get_push_ne _ (by omega) _⟩⟩
 ·have e:b≠m.size:=by intro e;rw[e,hn]at hL';cases hL'
  simp at hb';rw[Mem.get_push_ne _ e];exact hr.blk b L' (by omega) hL'
 ·have e1:b₁≠m.size:=by intro e;rw[e,hn]at h3;cases h3
  have e2:b₂≠m.size:=by intro e;rw[e,hn]at h4;cases h4
  simp at h1 h2;rw[Mem.get_push_ne _ e1]at l1;rw[Mem.get_push_ne _ e2]at l2;exact hr.inj b₁ b₂ L₁ L₂ (by omega) (by omega) h3 h4 l1 l2 g0 e
 ·simp at hb';rw[Mem.get_push_ne _ (by omega)];exact hr.top b (by omega)
theorem R0.start1{w:World}{gl:List Value}{rc:Array Value}{e:TypeId}{fr:Nat×Nat}(h:w.heap[0]?=some (.cells rc e fr))(hl:gl.length<=rc.size)(hc:∀(i:Nat) (v:Value),gl[i]?=some v->rc[i]?=some v/\∀ι,AZ ι v v):
  R0 1 w.heap.size (λb=>if b=0 then some ⟨0,0,rc.size⟩else none) (Kit.mG gl) w:=by
 refine⟨⟨λb L hb hL=>?_,λb₁ b₂ L₁ L₂ h1 h2 _ _ _ _ _ _=>?_,Nat.le_refl _,λg hg=>?_,Kit.mG_top gl⟩,λb hb=>?_,by rw[Kit.mG_size];exact Nat.le_refl _⟩
 ·rw[Kit.mG_size]at hb;obtain rfl:b=0:=by omega
  rw[Kit.mG_get];simp at hL;subst hL;refine⟨rc,e,fr,h,rfl,by simpa using hl,λi v hv=>?_,λho=>by cases ho⟩;obtain⟨q1,q2⟩:=hc i v hv;exact⟨v,by simpa using q1,q2 _⟩
 ·rw[Kit.mG_size]at h1 h2;omega
 ·obtain rfl:g=0:=by omega
  exact⟨⟨0,0,rc.size⟩,by simp,rfl,rfl⟩
 ·rw[Kit.mG_size]at hb;simp[show b≠0 by omega]
inductive JS{H:Type}:Dt->DataW H->Prop
 |bo (b:Bool):JS (.bo b) (.lit (.bool b))
 |int (k:IntKind) (n:Int):JS (.int k n) (.lit (.int k n))
 |str (s:ByteArray):JS (.str s) (.lit (.string s.data.toList))
 |nil:JS .nil .nil
 |sl {l:List Dt} {cap:Nat} {elems rest:List (DataW H)} (hl:l.length=elems.length) (h:∀(i:Nat) (x:Dt) (y:DataW H),l[i]?=some x->elems[i]?=some y->JS x y):JS (.sl l cap) (.slice elems rest)
 |ag {l:List Dt} {parts:List (DataW H)} (hl:l.length=parts.length) (h:∀(i:Nat) (x:Dt) (y:DataW H),l[i]?=some x->parts[i]?=some y->JS x y):JS (.ag l) (.agg parts)
section
variable{H:Type}{enc:TypeId×Value->H}{w:World}{G B0:Nat}
def R7(B0:Nat)(ps:List MemPlace):Prop:=∀p∈ps,p.block<B0
def rz(G:Nat)(P:Program)(w:World)(B0 n:Nat)(t:TypeId)(cs:List Value×DataW H):Prop:=
 ∀(ι:Ren) (m:Mem),R0 G B0 ι m w->∃d ι' m' c',Typed P n t d/\JS d cs.2/\Gx m' d c'/\Bb ι' c' cs.1/\R0 G B0 ι' m' w/\Oo ι ι' m m'
theorem ML{n:Nat}:∀(ts:List TypeId) (css:List (List Value×DataW H)),JV (λt cs=>rz G P w B0 n t cs) ts css->∀(ι:Ren) (m:Mem),R0 G B0 ι m w->
  ∃l ι' m' c',JV (λt d=>Typed P n t d) ts l/\(l.length=css.length/\∀(i:Nat) (x:Dt) (y:List Value×DataW H),l[i]?=some x->css[i]?=some y->JS x y.2)/\Ew m' l c'/\Bb ι' c' (css.map (·.1)).flatten/\R0 G B0 ι' m' w/\Oo ι ι' m m'
 | [],css,h,ι,m,hr=>by
  rw[Ht h];exact⟨[],ι,m,[],trivial,⟨rfl,λi x y hx=>by simp at hx⟩,by simp[Ew], .nil,hr,Oo.refl _ _⟩
 |t::ts,css,h,ι,m,hr=>by
  obtain⟨cs,css',rfl,h1,h2⟩:=Ch h;obtain⟨d,ι1,m1,c1,k1,kd,k2,k3,k4,k5⟩:=h1 ι m hr;obtain⟨l,ι2,m2,c2,g1,gd,g2,g3,g4,g5⟩:=ML ts css' h2 ι1 m1 k4;refine⟨d::l,ι2,m2,c1++c2,⟨k1,g1⟩,⟨by simp[gd.1],λi x y hx hy=>?_⟩,?_,?_,g4,k5.trans g5⟩
  ·cases i with
   |zero=>simp at hx hy;subst hx;subst hy;exact kd
   |succ i=>exact gd.2 i x y (by simpa using hx) (by simpa using hy)
  ·simp only[Ew];exact⟨c1,c2,rfl,Gx.ext g5 d c1 k2,g2⟩
  ·rw[List.map_cons,List.flatten_cons];exact(Bb.mono g5.ren k3).append g3
def Cells(w:World)(a:Addr)(l:List Value):Prop:=∀i,i<l.length->w.cell? (a.add i)=l[i]?
theorem Addr.add_block(a:Addr)(i:Nat):(a.add i).block=a.block:=by unfold Addr.add;split<;>rfl
theorem Addr.add_off(a:Addr)(i:Nat):(a.add i).off=a.off+i:=by
 unfold Addr.add
 split
 ·rename_i h;simp[h]
 ·rfl
theorem Addr.add_add(a:Addr)(i j:Nat):(a.add i).add j=a.add (i+j):=by
 unfold Addr.add
 by_cases hi:i=0
 ·subst hi;simp
 ·by_cases hj:j=0
  ·subst hj;simp[hi]
  ·simp[hi,hj,Nat.add_assoc]
theorem Cells.append{a:Addr}{l l':List Value}(h:Cells w a l)(k:Cells w (a.add l.length) l'):Cells w a (l++l'):=by
 intro i hi
 rcases Nat.lt_or_ge i l.length with h1|h1
 ·rw[List.getElem?_append_left h1];exact h i h1
 ·rw[List.getElem?_append_right h1,←k (i - l.length) (by simp at hi;omega),Addr.add_add,show l.length+(i - l.length)=i by omega]
theorem ND{a:Addr}{sz:Nat}(ch:Nat->List Value):∀(n:Nat),(∀i,i<n->(ch i).length=sz/\Cells w (a.add (i*sz)) (ch i))->((List.range n).map ch).flatten.length=n*sz/\Cells w a ((List.range n).map ch).flatten
 |0,h=>⟨by simp,λi hi=>by simp at hi⟩
 |n+1,h=>by
  obtain⟨h1,h2⟩:=ND ch n (λi hi=>h i (by omega));obtain⟨h3,h4⟩:=h n (by omega);rw[List.range_succ,List.map_append,List.flatten_append];refine⟨by simp[h1,h3,Nat.succ_mul],h2.append ?_⟩;rw[h1];simpa using h4
theorem EW{a:Addr}{v:Value}(h:w.cell? a=some v):a.spot=none/\∃rc e fr,w.heap[a.block]?=some (.cells rc e fr)/\rc[a.off]?=some v:=by
 unfold World.cell? at h
 split at h
 ·rename_i c e fr hc;split at h
  ·cases h
  ·rename_i hs;refine⟨by simpa using hs,c,e,fr,hc,h⟩
 ·cases h
theorem Oq(l:List Value)(off n tot:Nat)(h:l.length=tot):(l.drop off).take n++l.drop (off+n)=l.drop off:=by
 rw[←List.drop_drop,List.take_append_drop]
theorem Le{cs:List Value}:∀(fs:List Field) (off:Nat),LC P cs.length off fs=true->off<=cs.length->(fs.map λf=>(cs.drop f.offset).take (P.cellsOf f.type)).flatten=cs.drop off
 | [],off,h,_=>by
  have:=Nat.eq_of_beq_eq_true h;subst this;simp
 |f::fs,off,h,ho=>by
  simp only[LC,Bool.and_eq_true]at h;have h1:=Nat.eq_of_beq_eq_true h.1
  have hle:off+P.cellsOf f.type<=cs.length:=by
   clear ho h1
   have:∀(l:List Field) (o:Nat),LC P cs.length o l=true->o<=cs.length:=by
    intro l;induction l with
    |nil=>intro o h;exact Nat.le_of_eq (Nat.eq_of_beq_eq_true h)
    |cons g l ih=>intro o h;simp only[LC,Bool.and_eq_true]at h;have:=ih _ h.2;omega
   exact this _ _ h.2
  have ih:=Le fs (off+P.cellsOf f.type) h.2 hle;rw[List.map_cons,List.flatten_cons,ih,h1];exact Oq cs off _ _ rfl
theorem Lf{cs:List Value}{sz:Nat}:∀(n off:Nat),cs.length=off+n*sz->((List.range n).map λi=>(cs.drop (off+i*sz)).take sz).flatten=cs.drop off
 |0,off,h=>by simp at h;subst h;simp
 |n+1,off,h=>by
  have ih:=Lf (cs:=cs) (sz:=sz) n (off+sz) (by rw[h,Nat.succ_mul];omega);rw[List.range_succ_eq_map,List.map_cons,List.flatten_cons,List.map_map]
  have e:(List.range n).map ((λi=>(cs.drop (off+i*sz)).take sz) ∘ Nat.succ)=(List.range n).map λi=>(cs.drop (off+sz+i*sz)).take sz:=by
   apply List.map_congr_left;intro i _;simp only[Function.comp];congr 2;rw[Nat.succ_mul];omega
  rw[e,ih];simp only[Nat.zero_mul,Nat.add_zero];exact Oq cs off _ _ rfl
theorem G6{α β:Type}{R:α->β->Prop}:∀{l:List α} {l':List β},l.length=l'.length->(∀(i:Nat) (a:α) (b:β),l[i]?=some a->l'[i]?=some b->R a b)->JV R l l'
 | [],[],_,_=>trivial
 | [],_::_,h,_=>by simp at h
 |_::_,[],h,_=>by simp at h
 |a::l,b::l',h,k=>⟨k 0 a b rfl rfl,G6 (by simpa using h) λi x y hx hy=>k (i+1) x y (by simpa using hx) (by simpa using hy)⟩
set_option maxHeartbeats 1000000 in
theorem KL:∀(n:Nat) (t:TypeId),Fh P n t=true->∀(fuel:Nat) (cs:List Value) (x:DataW H×List MemPlace),DataW.trod enc P w 0 (λ_=>true) true fuel t cs=some x->R7 B0 x.2->rz G P w B0 n t (cs,x.1)
 |0,t,hd,_,_,_,_,_=>by simp[Fh]at hd
 |n+1,t,hd,fuel,cs,x,h,hB=>by
  intro ι m hr;unfold Fh at hd;split at hd
  ·rename_i ht;obtain⟨b,rfl,rfl⟩:=DataW.trod_bool ht h;exact⟨.bo b,ι,m,[.bool b],by simp[Typed,ht], .bo b,by simp[Gx], .cons (.bool _) .nil,hr,Oo.refl _ _⟩
  ·rename_i k ht;obtain⟨z,rfl,rfl,hw⟩:=DataW.trod_int ht h;exact⟨.int k z,ι,m,[.int k z],by simp[Typed,ht,hw], .int k z,by simp[Gx], .cons (.int _ _) .nil,hr,Oo.refl _ _⟩
  ·rename_i ht;obtain⟨s,rfl,rfl,hs⟩:=DataW.trod_string ht h;exact⟨.str s,ι,m,[.string s],by simp[Typed,ht,hs], .str s,by simp[Gx], .cons (.string _) .nil,hr,Oo.refl _ _⟩
  ·rename_i e ht;simp only[Bool.and_eq_true]at hd;have hpos:0<P.cellsOf e:=by have:=hd.1;simpa[Nat.blt_eq]using this
   rcases DataW.trod_slice ht h with⟨rfl,rfl⟩|⟨a,len,cap,elems,rest,fu,_,rfl,rfl,_,hl,hm,hlen,hel,hsp,_⟩
   ·exact⟨.nil,ι,m,[.slice none 0 0],by simp[Typed,ht], .nil,by simp[Gx], .cons (.slc0 _ _) .nil,hr,Oo.refl _ _⟩
   obtain⟨hrl,hre⟩:=hsp rfl
   have hcell:∀i,i<cap->∃y,(w.cells? 0 (a.add (i*P.cellsOf e)) (P.cellsOf e)).bind (DataW.trod enc P w 0 (λ_=>true) true fu e)=some y/\y∈elems++rest:=by
    intro i hi;by_cases h1:i<len
    ·rw[hel i h1];have h2:i<elems.length:=by omega
     exact⟨elems[i],List.getElem?_eq_getElem h2,List.mem_append_left _ (List.getElem_mem h2)⟩
    ·have h2:i - len<rest.length:=by omega
     have:=hre (i - len) (by omega);rw[show len+(i - len)=i by omega]at this;rw[this];exact⟨rest[i - len],List.getElem?_eq_getElem h2,List.mem_append_right _ (List.getElem_mem h2)⟩
   by_cases hc0:cap=0
   ·subst hc0;obtain rfl:len=0:=by omega
    obtain⟨g1,g2⟩:=hr.blank;refine⟨.sl [] 0,ι,_,[.slice (some ⟨m.size,0,some 1⟩) 0 0],?_, .sl (by simp[hlen]) (λi x y hx=>by simp at hx),?_, .cons (.empty _ _ _ _) .nil,g1,g2⟩
    ·simp only[Typed,ht];exact .inr ⟨[],0,rfl,Nat.le_refl _,Nat.zero_le _,λx hx=>by simp at hx⟩
    ·simp only[Gx];exact⟨m.size,some 1,[],rfl,by simp,Mem.get_push_same _ _,by simp[Ew], .inr (by simp)⟩
   have hab:a.block<B0:=by
    refine hB (.cell a.block (a.off+0)) ?_;refine List.mem_append_left _ ?_;unfold MemPlace.row;refine List.mem_map.2 ⟨0,List.mem_range.2 ?_,rfl⟩;exact Nat.mul_pos (by omega) hpos
   have hchunk:∀i,i<cap->∃ch y,w.cells? 0 (a.add (i*P.cellsOf e)) (P.cellsOf e)=some ch/\ch.length=P.cellsOf e/\Cells w (a.add (i*P.cellsOf e)) ch/\DataW.trod enc P w 0 (λ_=>true) true fu e ch=some y/\y∈elems++rest:=by
    intro i hi;obtain⟨y,hy,hmem⟩:=hcell i hi;obtain⟨ch,h1,h2⟩:=Option.bind_eq_some_iff.1 hy;obtain⟨_,h3,h4⟩:=World.cells?_some h1;exact⟨ch,y,h1,h3,λj hj=>h4 j (by omega),h2,hmem⟩
   obtain⟨ch0,y0,_,z2,z3,_⟩:=hchunk 0 (by omega)
   have hfirst:∃v,w.cell? a=some v:=by
    have:=z3 0 (by omega);rw[Addr.add_add]at this;have e0:a.add (0*P.cellsOf e+0)=a:=by simp[Addr.add]
    rw[e0]at this;rw[this];exact⟨ch0[0]'(by omega),List.getElem?_eq_getElem (by omega)⟩
   obtain⟨v0,hv0⟩:=hfirst;obtain⟨hspot,rc,te,fr,hrc,hoff⟩:=EW hv0;let ch:Nat->List Value:=λi=>(w.cells? 0 (a.add (i*P.cellsOf e)) (P.cellsOf e)).getD []
   have hch:∀i,i<len->(ch i).length=P.cellsOf e/\Cells w (a.add (i*P.cellsOf e)) (ch i):=by
    intro i hi;obtain⟨c1,y,h1,h2,h3,_⟩:=hchunk i (by omega);simp only[ch,h1,Option.getD_some];exact⟨h2,h3⟩
   have himp:JV (λt cs=>rz G P w B0 n t cs) (List.replicate len e) ((List.range len).map λi=>(ch i,(elems.map (·.1)).getD i .nil)):=by
    refine G6 (by simp) λi t' c1 ht' hc1=>?_
    have hi:i<len:=by
     have:=(List.getElem?_eq_some_iff.1 ht').1;simpa using this
    simp only[List.getElem?_replicate,hi,if_true,Option.some.injEq]at ht';subst ht';obtain⟨c2,y,h1,_,_,h4,h5⟩:=hchunk i (by omega);simp only[List.getElem?_map,List.getElem?_range hi,Option.map_some,ch,h1,Option.getD_some,Option.some.injEq]at hc1;subst hc1
    have hy:elems[i]?=some y:=by
     have:=hel i hi;rw[h1]at this;simp only[Option.bind_some,h4]at this;exact this.symm
    have hyd:(elems.map (·.1)).getD i .nil=y.1:=by simp[List.getD_eq_getElem?_getD,List.getElem?_map,hy]
    rw[hyd];refine KL n e hd.2 fu c2 y h4 λp hp=>hB p ?_;exact List.mem_append_right _ (List.mem_flatMap.2 ⟨y,h5,hp⟩)
   obtain⟨l,ι1,m1,c1,g1,gd,g2,g3,g4,g5⟩:=ML _ _ himp ι m hr;have gm:(((List.range len).map λi=>(ch i,(elems.map (·.1)).getD i (.nil:DataW H))).map (·.1))=(List.range len).map ch:=by rw[List.map_map];rfl
   rw[gm]at g3;obtain⟨f1,f2⟩:=ND (w:=w) (a:=a) (sz:=P.cellsOf e) ch len hch;obtain⟨l1,l2⟩:=GI g1;have hlc:c1.length=len*P.cellsOf e:=by rw[g3.length,f1]
   have hsz:a.off+len*P.cellsOf e<=rc.size:=by
    by_cases h0:len*P.cellsOf e=0
    ·have:=(Array.getElem?_eq_some_iff.1 hoff).1;omega
    ·have:=f2 (len*P.cellsOf e - 1) (by omega);have h3:len*P.cellsOf e - 1< ((List.range len).map ch).flatten.length:=by omega
     rw[List.getElem?_eq_getElem h3]at this;obtain⟨_,rc',_,_,q1,q2⟩:=EW this;have e1:(a.add (len*P.cellsOf e - 1)).block=a.block:=Addr.add_block _ _;rw[e1,hrc]at q1;cases q1;have e2:(a.add (len*P.cellsOf e - 1)).off=a.off+(len*P.cellsOf e - 1):=Addr.add_off _ _;rw[e2]at q2;have:=(Array.getElem?_eq_some_iff.1 q2).1;omega
   have hblk:Bg B0 ι1 (.cells false c1) ⟨a.block,a.off,rc.size⟩ w:=by
    refine⟨rc,te,fr,hrc,rfl,by rw[hlc];exact hsz,λi v hv=>?_,λh=>by cases h⟩;obtain⟨v',hv',hrel⟩:=g3.get hv;refine⟨v',?_,hrel⟩;have hi:i< ((List.range len).map ch).flatten.length:=(List.getElem?_eq_some_iff.1 hv').1;have:=f2 i hi;rw[hv']at this;obtain⟨_,rc',_,_,q1,q2⟩:=EW this;have e1:(a.add i).block=a.block:=Addr.add_block _ _;rw[e1,hrc]at q1;cases q1;rw[Addr.add_off]at q2;exact q2
   obtain⟨k1,k2⟩:=g4.push c1 ⟨a.block,a.off,rc.size⟩ hab hblk;refine⟨.sl l cap,_,_,[.slice (some ⟨m1.size,0,none⟩) len cap],?_, .sl (by rw[l1];simp[hlen]) (λi x y hx hy=>?_),?_, .cons ?_ .nil,k1,g5.trans k2⟩
   ·simp only[Typed,ht];exact .inr ⟨l,cap,rfl,by omega,hm,l2⟩
   ·have hi:i<len:=by rw[←l1];exact(List.getElem?_eq_some_iff.1 hx).1
    have:=gd.2 i x (ch i,(elems.map (·.1)).getD i .nil) hx (by simp[List.getElem?_range hi]);have hyd:(elems.map (·.1)).getD i .nil=y:=by simp[List.getD_eq_getElem?_getD,hy]
    rw[hyd]at this;exact this
   ·simp only[Gx];exact⟨m1.size,none,c1,by rw[l1],by simp,Mem.get_push_same _ _,Ew.ext k2 l c1 g2, .inl rfl⟩
   ·have:=AZ.slc (ι:=λb=>if b=m1.size then some ⟨a.block,a.off,rc.size⟩else ι1 b) m1.size 0 len cap ⟨a.block,a.off,rc.size⟩ (by simp);have ea:(⟨a.block,a.off+0,none⟩:Addr)=a:=by cases a;simp at hspot;simp[hspot]
    rw[ea]at this;exact this
  ·rename_i fs ht;simp only[Bool.and_eq_true]at hd;obtain⟨xs,fu,_,rfl,hlen,hxl,hx⟩:=DataW.trod_struct ht h
   have himp:JV (λt cs=>rz G P w B0 n t cs) (fs.toList.map (·.type)) ((fs.toList.zip (xs.map (·.1))).map λp=>((cs.drop p.1.offset).take (P.cellsOf p.1.type),p.2)):=by
    refine G6 (by simp[hxl]) λi t' c1 ht' hc1=>?_;rw[List.getElem?_map]at ht' hc1;obtain⟨f,hf,rfl⟩:=Option.map_eq_some_iff.1 ht';obtain⟨p,hp,rfl⟩:=Option.map_eq_some_iff.1 hc1;obtain⟨hp1,hp2⟩:=List.getElem?_zip_eq_some.1 hp;rw[hf]at hp1;obtain rfl:f=p.1:=Option.some.inj hp1;have hf':fs[i]?=some p.1:=by simpa using hf
    have hi:i<xs.length:=by rw[hxl];exact(Array.getElem?_eq_some_iff.1 hf').1
    have h1:=hx i p.1 hf';rw[List.getElem?_eq_getElem hi]at h1;rw[List.getElem?_map,List.getElem?_eq_getElem hi]at hp2;simp only[Option.map_some,Option.some.injEq]at hp2;rw[←hp2];refine KL n p.1.type (List.all_eq_true.1 hd.1 p.1 (List.mem_of_getElem? hf)) fu _ xs[i] h1 λy hy=>hB y ?_;exact List.mem_flatMap.2 ⟨xs[i],List.getElem_mem hi,hy⟩
   obtain⟨l,ι1,m1,c1,g1,gd,g2,g3,g4,g5⟩:=ML _ _ himp ι m hr
   have gm:((fs.toList.zip (xs.map (·.1))).map λp=>((cs.drop p.1.offset).take (P.cellsOf p.1.type),p.2)).map (·.1)=fs.toList.map λf=>(cs.drop f.offset).take (P.cellsOf f.type):=by
    rw[List.map_map];have e:(fs.toList.zip (xs.map (·.1))).map (λp=>p.1)=fs.toList:=List.map_fst_zip (by simp[hxl])
    conv=>rhs;rw[←e,List.map_map]
    rfl
   rw[gm,Le fs.toList 0 (by rw[hlen];exact hd.2) (Nat.zero_le _),List.drop_zero]at g3;refine⟨.ag l,ι1,m1,c1,?_, .ag (by rw[gd.1];simp[hxl]) (λi x y hx hy=>?_),?_,g3,g4,g5⟩
   ·simp only[Typed,ht];exact⟨l,rfl,g1⟩
   ·have hi:i<fs.toList.length:=by have:=(List.getElem?_eq_some_iff.1 hx).1;rw[gd.1]at this;simp at this;simp;omega
    exact gd.2 i x ((cs.drop fs.toList[i].offset).take (P.cellsOf fs.toList[i].type),y) hx (by rw[List.getElem?_map,(List.getElem?_zip_eq_some (z:=(fs.toList[i],y))).2 ⟨List.getElem?_eq_getElem hi,hy⟩];rfl)
   ·simp only[Gx];exact g2
  ·rename_i k e ht;simp only[Bool.and_eq_true]at hd;obtain⟨xs,fu,_,rfl,hlen,hxl,hx⟩:=DataW.trod_array ht h
   have himp:JV (λt cs=>rz G P w B0 n t cs) (List.replicate k e) ((List.range k).map λi=>((cs.drop (0+i*P.cellsOf e)).take (P.cellsOf e),(xs.map (·.1)).getD i .nil)):=by
    refine G6 (by simp) λi t' c1 ht' hc1=>?_
    have hi:i<k:=by
     have:=(List.getElem?_eq_some_iff.1 ht').1;simpa using this
    simp only[List.getElem?_replicate,hi,if_true,Option.some.injEq]at ht';subst ht';simp only[List.getElem?_map,List.getElem?_range hi,Option.map_some,Option.some.injEq,Nat.zero_add]at hc1;subst hc1;have h1:=hx i hi;have hi':i<xs.length:=by omega
    rw[List.getElem?_eq_getElem hi']at h1;have hyd:(xs.map (·.1)).getD i .nil=xs[i].1:=by simp[List.getD_eq_getElem?_getD,List.getElem?_map,List.getElem?_eq_getElem hi']
    rw[hyd];refine KL n e hd.1 fu _ xs[i] h1 λp hp=>hB p ?_;exact List.mem_flatMap.2 ⟨xs[i],List.getElem_mem hi',hp⟩
   obtain⟨l,ι1,m1,c1,g1,gd,g2,g3,g4,g5⟩:=ML _ _ himp ι m hr;obtain⟨l1,l2⟩:=GI g1;have gm:((List.range k).map λi=>((cs.drop (0+i*P.cellsOf e)).take (P.cellsOf e),(xs.map (·.1)).getD i (.nil:DataW H))).map (·.1)=(List.range k).map λi=>(cs.drop (0+i*P.cellsOf e)).take (P.cellsOf e):=by rw[List.map_map];rfl
   rw[gm,Lf k 0 (by rw[hlen,Nat.eq_of_beq_eq_true hd.2,Nat.zero_add]),List.drop_zero]at g3;refine⟨.ag l,ι1,m1,c1,?_, .ag (by rw[l1];simp[hxl]) (λi x y hx hy=>?_),?_,g3,g4,g5⟩
   ·simp only[Typed,ht];exact⟨l,rfl,l1,l2⟩
   ·have hi:i<k:=by rw[←l1];exact(List.getElem?_eq_some_iff.1 hx).1
    have:=gd.2 i x ((cs.drop (0+i*P.cellsOf e)).take (P.cellsOf e),(xs.map (·.1)).getD i .nil) hx (by simp[List.getElem?_range hi]);have hyd:(xs.map (·.1)).getD i .nil=y:=by simp[List.getD_eq_getElem?_getD,hy]
    rw[hyd]at this;exact this
   ·simp only[Gx];exact g2
  ·cases hd
def Arg(P:Program)(m:Mem)(t:TypeId)(d:Dt)(v:Value):Prop:=
 match GW P t with
 |some true=>∃c,v= .agg ⟨c⟩/\Gx m d c
 |_=>Gx m d [v]
def Mc(P:Program)(n:Nat)(m:Mem):List TypeId->List Dt->List Value->Prop
 | [],[],[]=>True
 |t::ts,d::ds,v::vs=>Typed P n t d/\Arg P m t d v/\Mc P n m ts ds vs
 |_,_,_=>False
theorem Arg.ext{ι ι':Ren}{m m':Mem}(e:Oo ι ι' m m'){t:TypeId}{d:Dt}{v:Value}(h:Arg P m t d v):Arg P m' t d v:=by
 unfold Arg at h ⊢
 split
 ·rename_i ht;rw[ht]at h;obtain⟨c,h1,h2⟩:=h;exact⟨c,h1,Gx.ext e d c h2⟩
 ·rename_i ht;split at h
  ·rename_i ht';exact absurd ht' ht
  ·exact Gx.ext e d _ h
def MM(P:Program)(t:TypeId)(v:Value):Prop:=match GW P t with|some true=>∃cs,v= .agg cs|_=>v.cells.toList= [v]
theorem Zu{n:Nat}{t:TypeId}{v:Value}{r:Reach}{b:Nat}(hd:Fh P n t=true)(h:Value.okWide P w r b t v):MM P t v:=by
 cases n with
 |zero=>simp[Fh]at hd
 |succ n=>
  unfold Fh at hd;unfold MM GW;unfold Value.okWide at h;split at hd
  all_goals first
   |(rename_i ht;rw[ht]at h ⊢;simp only at h ⊢;obtain⟨cs,h1,_⟩:=h;exact⟨cs,h1⟩)
   |(rename_i ht;rw[ht]at h ⊢;simp only[Cell.okWide,ht]at h;cases v<;>simp_all [Cell.ok,Value.cells])
   |cases hd
theorem R8{n:Nat}:∀(ts:List TypeId) (vs:List Value) (ds:List (DataW H)) (ps:List MemPlace),(ts.all λt=>Fh P n t)=true->DataW.TrodAll enc P w 0 (λ_=>true) true ts vs ds ps->
  (∀(j:Nat) t v,ts[j]?=some t->vs[j]?=some v->MM P t v)->R7 B0 ps->∀(ι:Ren) (m:Mem),R0 G B0 ι m w->
  ∃l ι' m' vs',Mc P n m' ts l vs'/\(l.length=ds.length/\∀(i:Nat) (x:Dt) (y:DataW H),l[i]?=some x->ds[i]?=some y->JS x y)/\Bb ι' vs' vs/\R0 G B0 ι' m' w/\Oo ι ι' m m'
 | [],vs,ds,ps,_,h,_,_,ι,m,hr=>by
  obtain⟨rfl,rfl,rfl⟩:=trodAll_nil h;exact⟨[],ι,m,[],trivial,⟨rfl,λi x y hx=>by simp at hx⟩, .nil,hr,Oo.refl _ _⟩
 |t::ts,vs,ds,ps,hd,h,hs,hB,ι,m,hr=>by
  obtain⟨v,vs',d,ds',p,q,rfl,rfl,rfl,⟨fuel,h1⟩,h2⟩:=trodAll_cons h;simp only[List.all_cons,Bool.and_eq_true]at hd;obtain⟨d1,ι1,m1,c1,k1,kd,k2,k3,k4,k5⟩:=KL n t hd.1 fuel _ _ h1 (λx hx=>hB x (List.mem_append_left _ hx)) ι m hr;obtain⟨l,ι2,m2,vs2,g1,gd,g2,g3,g4⟩:=R8 ts vs' ds' q hd.2 h2 (λj t v ht hv=>hs (j+1) t v (by simpa using ht) (by simpa using hv)) (λx hx=>hB x (List.mem_append_right _ hx)) ι1 m1 k4;have hsh:=hs 0 t v rfl rfl
  have key:∃v1,Arg P m1 t d1 v1/\AZ ι1 v1 v:=by
   unfold MM at hsh;unfold Arg;split at hsh
   ·rename_i ht;obtain⟨cs,rfl⟩:=hsh;refine⟨.agg ⟨c1⟩,⟨c1,rfl,k2⟩,?_⟩;have:=AZ.agg' (ι:=ι1) k3;simpa[Value.cells]using this
   ·rename_i ht;rw[hsh]at k3;cases k3 with
    |cons k3 k3'=>
     cases k3';rename_i v1;exact⟨v1,k2,k3⟩
  obtain⟨v1,q1,q2⟩:=key
  exact⟨d1::l,ι2,m2,v1::vs2,⟨k1,Arg.ext g4 q1,g1⟩,⟨by simp[gd.1],λi x y hx hy=>by
   cases i with
   |zero=>simp at hx hy;subst hx;subst hy;exact kd
   |succ i=>exact gd.2 i x y (by simpa using hx) (by simpa using hy)⟩, .cons (q2.mono g4.ren) g2,g3,k5.trans g4⟩
theorem JE(hl:laidOutB P=true):∀{ts:List TypeId} {vs:List Value} {ds:List (DataW H)} {ps:List MemPlace} {W':World},(ts.all λt=>P.readableRec t && decide (t<P.types.size))=true->
  DataW.TrodAll enc P w 0 (λ_=>true) true ts vs ds ps->Below w.heap.size w W'->R7 w.heap.size ps->DataW.TrodAll enc P W' 0 (λb=>decide (b<w.heap.size)) true ts vs ds ps
 | [],vs,ds,ps,W',_,h,_,_=>by
  obtain⟨rfl,rfl,rfl⟩:=trodAll_nil h;rfl
 |t::ts,vs,ds,ps,W',hr,h,hb,hB=>by
  obtain⟨v,vs',d,ds',p,q,rfl,rfl,rfl,h1,h2⟩:=trodAll_cons h;simp only[List.all_cons,Bool.and_eq_true]at hr
  exact⟨p,q,Below.trod hl hr.1.1 (of_decide_eq_true hr.1.2) h1 hb (λx hx=>hB x (List.mem_append_left _ hx)),
   JE hl hr.2 h2 hb (λx hx=>hB x (List.mem_append_right _ hx)),rfl⟩
theorem RT:∀{ts:List TypeId} {vs:List Value} {ds:List (DataW H)} {ps:List MemPlace},DataW.TrodAll enc P w 0 (λ_=>true) true ts vs ds ps->R7 w.heap.size ps
 | [],vs,ds,ps,h=>by
  obtain⟨rfl,rfl,rfl⟩:=trodAll_nil h;intro p hp;simp at hp
 |t::ts,vs,ds,ps,h=>by
  obtain⟨v,vs',d,ds',p,q,rfl,rfl,rfl,⟨m,hm⟩,h2⟩:=trodAll_cons h;intro x hx;rcases List.mem_append.1 hx with hx|hx
  ·exact DataW.trod_lt m _ _ _ hm x hx
  ·exact RT h2 x hx
end
end
end Go.DI
namespace Go.Proofs.YtgjflcgmieiafaaGreatDoor
open Go Go.DI Go.DI.Kit Go.Proofs Go.Cmp
noncomputable section
set_option maxRecDepth 100000
theorem Dy{P:Program}{n:Nat}{t:TypeId}{k:IntKind}(ht:P.underlying t=some (.int k)){d:Dt}(h:Typed P (n+1) t d):∃x,d= .int k x/\(Lit.int k x).wf=true:=by
 simpa only[Typed,ht]using h
theorem TA{P:Program}{n:Nat}{t:TypeId}(ht:P.underlying t=some .bool){d:Dt}(h:Typed P (n+1) t d):∃x,d= .bo x:=by
 simpa only[Typed,ht]using h
mutual
def wt:Dt->Nat
 | .sl l _=>Gw l+1
 | .ag l=>Gw l+1
 | .bo _=>1
 | .int _ _=>1
 | .str _=>1
 | .nil=>1
def Gw:List Dt->Nat
 | []=>0
 |d::l=>wt d+Gw l
end
theorem G2{H:Type}(d:DataW H):1<=Rows.uptoBulk d:=by
 cases d with
 |lit l=>cases l<;>simp[Rows.uptoBulk]
 |_=>simp[Rows.uptoBulk]
mutual
theorem rO{H:Type}:∀(d:Dt) (y:DataW H),JS d y->wt d<=Rows.uptoBulk y
 | .bo _,y,_=>by rw[wt];exact G2 y
 | .int _ _,y,_=>by rw[wt];exact G2 y
 | .str _,y,_=>by rw[wt];exact G2 y
 | .nil,y,_=>by rw[wt];exact G2 y
 | .sl l _,y,h=>by
  cases h with
  | @sl _ _ elems rest hl h=>
   have:=Jw l elems hl h;rw[wt,Rows.uptoBulk];omega
 | .ag l,y,h=>by
  cases h with
  | @ag _ parts hl h=>
   have:=Jw l parts hl h;rw[wt,Rows.uptoBulk];omega
theorem Jw{H:Type}:∀(l:List Dt) (ys:List (DataW H)),l.length=ys.length->(∀(i:Nat) (x:Dt) (y:DataW H),l[i]?=some x->ys[i]?=some y->JS x y)->Gw l<=Rows.uptoBulkAll ys
 | [],ys,_,_=>by rw[Gw];exact Nat.zero_le _
 |d::l,[],hl,_=>by simp at hl
 |d::l,y::ys,hl,h=>by
  have h1:=rO d y (h 0 d y rfl rfl);have h2:=Jw l ys (by simpa using hl) λi x z hx hz=>h (i+1) x z (by simpa using hx) (by simpa using hz);rw[Gw,Rows.uptoBulkAll];omega
end
set_option maxHeartbeats 2000000 in
theorem TB{d:Dt}(h:Typed Tryz.prog 5 57 d):∃t:A8,Dh t/\wt d=8/\∀(m:Mem) (cs:List Value),Gx m d cs->cs=AX t:=by
 unfold Typed at h
 rw[Tryz.underlying57]at h
 obtain⟨l,rfl,h⟩:=h
 simp only[List.map_cons,List.map_nil]at h
 obtain⟨d0,l,rfl,h0,h⟩:=Ch h
 obtain⟨d1,l,rfl,h1,h⟩:=Ch h
 obtain⟨d2,l,rfl,h2,h⟩:=Ch h
 obtain⟨d3,l,rfl,h3,h⟩:=Ch h
 obtain⟨d4,l,rfl,h4,h⟩:=Ch h
 obtain⟨d5,l,rfl,h5,h⟩:=Ch h
 obtain⟨d6,l,rfl,h6,h⟩:=Ch h
 have hnil:=Ht h
 subst hnil
 obtain⟨ne,rfl⟩:=TA Tryz.underlying4 h0
 obtain⟨ki,rfl,_⟩:=Dy Tryz.underlying3 h1
 obtain⟨po,rfl,_⟩:=Dy Tryz.underlying3 h2
 obtain⟨si,rfl,_⟩:=Dy Tryz.underlying3 h3
 obtain⟨ma,rfl,hm⟩:=Dy Tryz.underlying38 h4
 obtain⟨lo,rfl,hl⟩:=Dy Tryz.underlying38 h5
 obtain⟨hi,rfl,hh⟩:=Dy Tryz.underlying38 h6
 refine⟨⟨ne,ki,po,si,ma,lo,hi⟩,?_,rfl,λm cs hc=>?_⟩
 ·simp[Lit.wf]at hm hl hh;have e1:IntKind.u64.min=0:=rfl;have e2:IntKind.u64.max=18446744073709551615:=rfl;rw[e1,e2]at hm hl hh;exact⟨⟨by simp only;omega,by simp only;omega⟩,⟨by simp only;omega,by simp only;omega⟩,⟨by simp only;omega,by simp only;omega⟩⟩
 ·simp only[Gx,Ew]at hc;obtain⟨_,_,rfl,rfl,_,_,rfl,rfl,_,_,rfl,rfl,_,_,rfl,rfl,_,_,rfl,rfl,_,_,rfl,rfl,_,_,rfl,rfl,rfl⟩:=hc;rfl
theorem L6:∀(l:List Dt),(∀x∈l,Typed Tryz.prog 5 57 x)->∃ts:List A8,ts.length=l.length/\(∀t∈ts,Dh t)/\Gw l=8*ts.length/\∀(m:Mem) (cs:List Value),Ew m l cs->cs=ts.flatMap AX
 | [],_=>⟨[],rfl,λr hr=>by simp at hr,rfl,λm cs h=>by simpa[Ew]using h⟩
 |d::l,h=>by
  obtain⟨t,h1,hw,h2⟩:=TB (h d (by simp));obtain⟨ts,h3,h4,hw2,h5⟩:=L6 l (λx hx=>h x (by simp[hx]));refine⟨t::ts,by simp[h3],λx hx=>?_,?_,λm cs hc=>?_⟩
  ·rcases List.mem_cons.1 hx with rfl|hx
   ·exact h1
   ·exact h4 x hx
  ·rw[Gw,hw,hw2,List.length_cons];omega
  ·simp only[Ew]at hc;obtain⟨c1,c2,rfl,g1,g2⟩:=hc;rw[h2 m c1 g1,h5 m c2 g2];rfl
def tl:Dt->Nat
 | .ag (.sl l _::_)=>l.length
 |_=>0
def els:Dt->List Dt
 | .sl l _=>l
 |_=> []
theorem JT{m:Mem}{b:Nat}{x:BI}(h:b<m.size)(hg:m.get b=x):Bm m b=some x:=by
 unfold Bm;rw[if_pos h,hg]
theorem TC{d:Dt}(h:Typed Tryz.prog 7 55 d):∃r:BA,(0<=r.verdict/\r.verdict<4294967296)/\(∀t∈r.tests,Dh t)/\3*(1+r.tests.length)<=wt d/\r.tests.length=tl d/\∀(m:Mem) (cs:List Value),Gx m d cs->∃v,cs=BX (v,r)/\CX (Bm m) v r.tests:=by
 unfold Typed at h
 rw[Tryz.underlying55]at h
 obtain⟨l,rfl,h⟩:=h
 simp only[List.map_cons,List.map_nil]at h
 obtain⟨d0,l,rfl,h0,h⟩:=Ch h
 obtain⟨d1,l,rfl,h1,h⟩:=Ch h
 have hnil:=Ht h
 subst hnil
 obtain⟨ve,rfl,hve⟩:=Dy Tryz.underlying24 h1
 have hvr:0<=ve/\ve<4294967296:=by
  simp[Lit.wf]at hve;have e1:IntKind.u32.min=0:=rfl;have e2:IntKind.u32.max=4294967295:=rfl;rw[e1,e2]at hve;omega
 unfold Typed at h0
 rw[Tryz.underlying53]at h0
 rcases h0 with rfl|⟨l,cap,rfl,hle,_,hl⟩
 ·refine⟨⟨[],ve⟩,hvr,λt ht=>by simp at ht,by simp only[wt,Gw,List.length_nil];omega,rfl,λm cs hc=>?_⟩;simp only[Gx,Ew]at hc;obtain⟨_,_,rfl,rfl,_,_,rfl,rfl,rfl⟩:=hc;exact⟨.slice none 0 0,rfl,none,0,rfl,λh0=>absurd rfl h0⟩
 ·obtain⟨ts,g1,g2,g3,g4⟩:=L6 l hl;refine⟨⟨ts,ve⟩,hvr,g2,?_,g1,λm cs hc=>?_⟩
  ·show 3*(1+ts.length)<=wt (.ag [.sl l cap, .int .u32 ve]);simp only[wt,Gw];omega
  ·simp only[Gx,Ew]at hc;obtain⟨_,_,rfl,⟨b,sp,c,rfl,q2,q3,q4,_⟩,_,_,rfl,rfl,rfl⟩:=hc;refine⟨.slice (some ⟨b,0,sp⟩) l.length cap,rfl,some ⟨b,0,sp⟩,cap,by rw[g1],λ_=>⟨b,sp,false,[],rfl,?_⟩⟩;rw[List.append_nil,←g4 m c q4];exact JT q2 q3
theorem L7:∀(l:List Dt),(∀x∈l,Typed Tryz.prog 7 55 x)->∃rs:List BA,rs.length=l.length/\(∀r∈rs,0<=r.verdict/\r.verdict<4294967296)/\Gv rs/\3*G1 rs<=Gw l/\rs.map (λr=>r.tests.length)=l.map tl/\∀(m:Mem) (cs:List Value),Ew m l cs->∃vr:List (Value×BA),vr.map (·.2)=rs/\cs=vr.flatMap BX/\∀x∈vr,CX (Bm m) x.1 x.2.tests
 | [],_=>⟨[],rfl,λr hr=>by simp at hr,λr hr=>by simp at hr,by decide,rfl,λm cs h=>⟨[],rfl,by simpa[Ew]using h,λx hx=>by simp at hx⟩⟩
 |d::l,h=>by
  obtain⟨r,hv1,h1,hw,ht1,h2⟩:=TC (h d (by simp));obtain⟨rs,h3,hv2,h4,hw2,ht2,h5⟩:=L7 l (λx hx=>h x (by simp[hx]))
  refine⟨r::rs,by simp[h3],λx hx=>by
   rcases List.mem_cons.1 hx with rfl|hx
   ·exact hv1
   ·exact hv2 x hx,λx hx=>?_,?_,by rw[List.map_cons,List.map_cons,ht1,ht2],λm cs hc=>?_⟩
  ·rcases List.mem_cons.1 hx with rfl|hx
   ·exact h1
   ·exact h4 x hx
  ·rw[Gw];unfold G1 at hw2 ⊢;rw[List.map_cons,List.sum_cons,List.length_cons];omega
  ·simp only[Ew]at hc;obtain⟨c1,c2,rfl,g1,g2⟩:=hc;obtain⟨v,rfl,e2⟩:=h2 m c1 g1;obtain⟨vr,e3,rfl,e5⟩:=h5 m c2 g2;refine⟨(v,r)::vr,by rw[List.map_cons,e3],by rw[List.flatMap_cons],λx hx=>?_⟩;rcases List.mem_cons.1 hx with rfl|hx
   ·exact e2
   ·exact e5 x hx
theorem O8{m:Mem}{d:Dt}{v:Value}(h:Typed Tryz.prog 8 22 d)(ha:Arg Tryz.prog m 22 d v):∃rs:List BA,(∀r∈rs,0<=r.verdict/\r.verdict<4294967296)/\Gv rs/\3*G1 rs<=wt d/\CT (Bm m) v rs/\rs.map (λr=>r.tests.length)=(els d).map tl:=by
 have hag:GW Tryz.prog 22=some false:=by kernel_rfl
 unfold Arg at ha
 rw[hag]at ha
 simp only at ha
 unfold Typed at h
 rw[Tryz.underlying22]at h
 rcases h with rfl|⟨l,cap,rfl,hle,_,hl⟩
 ·simp only[Gx]at ha;have:v= .slice none 0 0:=by simpa using ha
  exact⟨[],λr hr=>by simp at hr,λr hr=>by simp at hr,by show 3*0<=_;omega,⟨none,0,this,λh0=>absurd rfl h0⟩,rfl⟩
 ·simp only[Gx]at ha;obtain⟨b,sp,c,h1,h2,h3,h4,h5⟩:=ha;obtain⟨rs,g1,gv,g2,g3,g5,g4⟩:=L7 l hl;obtain⟨vr,e1,rfl,e3⟩:=g4 m c h4;have hv:v= .slice (some ⟨b,0,sp⟩) l.length cap:=by simpa using h1
  refine⟨rs,gv,g2,by rw[wt];omega,⟨some ⟨b,0,sp⟩,cap,by rw[hv,g1],λ_=>⟨b,sp,false,[],vr,rfl,e1,?_,e3⟩⟩,g5⟩;rw[List.append_nil];exact JT h2 h3
theorem Ym{P:Program}{n:Nat}{m:Mem}{l:List Dt}{vs:List Value}(h:Mc P n m [] l vs):l= []/\vs= []:=by
 cases l<;>cases vs<;>simp_all [Mc]
theorem O9{P:Program}{n:Nat}{m:Mem}{t:TypeId}{ts:List TypeId}{l:List Dt}{vs:List Value}(h:Mc P n m (t::ts) l vs):∃d l' v vs',l=d::l'/\vs=v::vs'/\Typed P n t d/\Arg P m t d v/\Mc P n m ts l' vs':=by
 cases l with
 |nil=>cases vs<;>simp[Mc]at h
 |cons d l=>
  cases vs with
  |nil=>simp[Mc]at h
  |cons v vs=>exact⟨d,l,v,vs,rfl,rfl,h.1,h.2.1,h.2.2⟩
theorem rQ{P:Program}{n:Nat}{m:Mem}{t t':TypeId}{l:List Dt}{vs:List Value}(h:Mc P n m [t,t'] l vs):∃d v d' v',l= [d,d']/\vs= [v,v']/\Typed P n t d/\Arg P m t d v/\Typed P n t' d'/\Arg P m t' d' v':=by
 obtain⟨d,l,v,vs,rfl,rfl,h1,h2,h⟩:=O9 h
 obtain⟨d',l,v',vs,rfl,rfl,h3,h4,h⟩:=O9 h
 obtain⟨rfl,rfl⟩:=Ym h
 exact⟨d,v,d',v',rfl,rfl,h1,h2,h3,h4⟩
end
end Go.Proofs.YtgjflcgmieiafaaGreatDoor
namespace Go.DI
open Go Go.RowKit Go.ChangeShapes Go.WideShapes
section
variable{H:Type}{enc:TypeId×Value->H}{P:Program}{w:World}{G:Nat}
theorem RU{n:Nat}{f:FuncId}{ts:List TypeId}{args:Array Value}{ds:List (DataW H)}{ps:List MemPlace}{ι0:Ren}{mm:Mem}
  (h0:R0 G w.heap.size ι0 mm w)
  (hd:(ts.all λt=>Fh P n t)=true) (hA:DataW.TrodAll enc P w 0 (λ_=>true) true ts args.toList ds ps) {r:Reach} {b:Nat}
  (hval:∀(j:Nat) t v,ts[j]?=some t->args[j]?=some v->Value.okWide P w r b t v) (hB:R7 w.heap.size ps)
  (run:∀(m:Mem) (l:List Dt) (vs:List Value),m.top->mm.size<=m.size->(∀b,b<mm.size->m.get b=mm.get b)->Mc P n m ts l vs->(l.length=ds.length/\∀(i:Nat) (x:Dt) (y:DataW H),l[i]?=some x->ds[i]?=some y->JS x y)->∃R:EV,CR P w.heap.size G R/\∃m',R f vs m=some (.bool true,m')):
  Calls P f args w λe w'=>e= .returned (.bool true)/\Below w.heap.size w w':=by
 obtain⟨l,ι,m,vs,h1,hdr,h2,h3,h4⟩:=R8 ts args.toList ds ps hd hA (λj t v ht hv=>Zu (List.all_eq_true.1 hd t (List.mem_of_getElem? ht)) (hval j t v ht (by simpa using hv))) hB _ _ h0
 obtain⟨R,hR,m',hrun⟩:=run m l vs h3.rel.top h4.size h4.get h1 hdr
 have:=hR.ok _ _ _ _ _ hrun ι w args.toList h3.rel (λb hb _=>h3.fresh b hb) h2
 have ea:args.toList.toArray=args:=by simp
 rw[ea]at this
 refine this.mono ?_
 rintro e w' ⟨v',ι',he,hv',hr',hs⟩
 exact⟨by rw[he,hv'.inv_bool],⟨hs.os,hs.tape,hs.output,hs.hsize,λB hB=>hs.below h3.rel B hB⟩⟩
end
end Go.DI
namespace Go.DI
namespace Kit
noncomputable section
def sA(bs:List Nat)(M m:Mem):Mem:=
 ⟨λj=>if j<M.size then(match bs.idxOf? j with|some i=>Gm (DV bs M) (m.get (i+1))|none=>M.get j)else .none, .nil,M.size+(m.size - (1+bs.length))⟩
section
variable{P:Program}{K:TypeId->Bool}{gl:List Value}
end
end
end Kit
end Go.DI
namespace Go.DI.Y
noncomputable section
variable{β:Type}
abbrev TT(β:Type):=β×List (Value×Value)
def HI(ps:List (Value×Value)):Prop:=∀p∈ps,p.1=p.2
theorem good_of{ps:List (Value×Value)}(h:ps.map Prod.fst=ps.map Prod.snd):HI ps:=by
 induction ps with
 |nil=>intro p hp;simp at hp
 |cons x l ih=>
  simp only[List.map_cons,List.cons.injEq]at h;intro p hp;rcases List.mem_cons.1 hp with rfl|hp
  ·exact h.1
  ·exact ih h.2 p hp
section
variable{P:Program}{K:TypeId->Bool}{G:Nat}{cf:CF (TT β)}{df:DF}
end
def aF(d:Nat):Value->Bool:=
 Nat.rec (motive:=λ_=>Value->Bool) (λ_=>false) (λ_ ih v=>match v with
  | .bool _=>true
  | .int _ _=>true
  | .string _=>true
  | .pointer _=>true
  | .slice _ _ _=>true
  | .map _=>true
  | .nilFunc=>true
  | .nilIface=>true
  | .agg a=>List.rec (motive:=λ_=>Bool) true (λx _ r=>Bool.rec (motive:=λ_=>Bool) false r (ih x)) a.toList
  | .tuple a=>List.rec (motive:=λ_=>Bool) true (λx _ r=>Bool.rec (motive:=λ_=>Bool) false r (ih x)) a.toList
  |_=>false) d
theorem LW{f:Value->Bool}{g:Value->Value->Bool}(h:∀v,f v=true->g v v=true):∀(l:List Value),List.rec (motive:=λ_=>Bool) true (λx _ r=>Bool.rec (motive:=λ_=>Bool) false r (f x)) l=true->Lv g l l=true
 | [],_=>rfl
 |x::l,hl=>by
  have hl:Bool.rec (motive:=λ_=>Bool) false (List.rec (motive:=λ_=>Bool) true (λx _ r=>Bool.rec (motive:=λ_=>Bool) false r (f x)) l) (f x)=true:=hl;cases hx:f x with
  |false=>rw[hx]at hl;cases hl
  |true=>
   rw[hx]at hl;simp only[Lv,h x hx,LW h l hl,Bool.and_self]
theorem Rf:∀(d:Nat) (v:Value),aF d v=true->Ov d v v=true
 |0,v,h=>by cases h
 |d+1,v,h=>by
  have ih:=Rf d;cases v<;>first|(cases h;done)|skip
  all_goals try (simp[Ov];done)
  ·exact LW ih _ h
  ·exact LW ih _ h
end
end Go.DI.Y
namespace Go.DI
namespace Kit
noncomputable section
def items:Code->List Code
 | .seq a b=>items a++items b
 | .scope c=>items c
 |c=> [c]
def DM:List Code->Code
 | []=> .skip
 | [c]=>c
 |c::l=> .seq c (DM l)
section
variable{P:Program}{K:TypeId->Bool}{G:Nat}
def G8(P:Program)(K:TypeId->Bool)(G:Nat)(cf:EV)(n k:Nat):List Code->AF->Mem->Option (Ex×AF×Mem)
 | [],t,m=>some (.normal,t,m)
 |c::l,t,m=>match AI P K G cf (AV P K G cf n) n k c t m with
  |some (.normal,t',m')=>G8 P K G cf n k l t' m'
  |r=>r
variable{cf:EV}{n k:Nat}
theorem FH:∀(a b:List Code) (t:AF) (m:Mem),G8 P K G cf n k (a++b) t m=(match G8 P K G cf n k a t m with|some (.normal,t',m')=>G8 P K G cf n k b t' m'|r=>r)
 | [],b,t,m=>rfl
 |c::a,b,t,m=>by
  simp only[List.cons_append,G8];cases AI P K G cf (AV P K G cf n) n k c t m with
  |none=>rfl
  |some r=>
   obtain⟨e,t',m'⟩:=r;cases e with
   |normal=>exact FH a b t' m'
   |exit id=>rfl
   |ret=>rfl
theorem PC(c:Code)(t:AF)(m:Mem):G8 P K G cf n k [c] t m=AI P K G cf (AV P K G cf n) n k c t m:=by
 simp only[G8]
 cases AI P K G cf (AV P K G cf n) n k c t m with
 |none=>rfl
 |some r=>
  obtain⟨e,t',m'⟩:=r;cases e<;>rfl
theorem IK:∀(c:Code) (t:AF) (m:Mem),AI P K G cf (AV P K G cf n) n k c t m=G8 P K G cf n k (items c) t m:=by
 intro c
 induction c with
 |seq a b iha ihb=>
  intro t m;simp only[items,FH,←iha,AI];cases AI P K G cf (AV P K G cf n) n k a t m with
  |none=>rfl
  |some r=>
   obtain⟨e,t',m'⟩:=r;cases e with
   |normal=>exact ihb t' m'
   |exit id=>rfl
   |ret=>rfl
 |scope c ih=>intro t m;exact ih t m
 |_=>intro t m;exact(PC _ t m).symm
theorem CI:∀(l:List Code) (t:AF) (m:Mem),AI P K G cf (AV P K G cf n) n k (DM l) t m=G8 P K G cf n k l t m
 | [],t,m=>rfl
 | [c],t,m=>(PC c t m).symm
 |c::c'::l,t,m=>by
  show AI P K G cf (AV P K G cf n) n k (.seq c (DM (c'::l))) t m=_;simp only[AI,G8];cases AI P K G cf (AV P K G cf n) n k c t m with
  |none=>rfl
  |some r=>
   obtain⟨e,t',m'⟩:=r;cases e with
   |normal=>exact CI (c'::l) t' m'
   |exit id=>rfl
   |ret=>rfl
theorem Iq(i:Nat)(c:Code){t t':AF}{m m':Mem} (h:AI P K G cf (AV P K G cf n) n k (DM ((items c).take i)) t m=some (.normal,t',m')):
  AI P K G cf (AV P K G cf n) n k c t m=AI P K G cf (AV P K G cf n) n k (DM ((items c).drop i)) t' m':=by
 rw[IK c,←List.take_append_drop i (items c),FH,←CI,h]
 simp only[List.take_append_drop]
 rw[CI]
end
end
end Kit
end Go.DI
namespace Go.DI.H
open Go.DI.Y
noncomputable section
variable{β:Type}
abbrev TT(β:Type):=β×List (Value×Value)×List Prop
def HI(ps:List (Value×Value)×List Prop):Prop:=(∀p∈ps.1,p.1=p.2)/\∀p∈ps.2,p
structure Hint where
 ix:TypeId->Bool
 ld:Nat->TypeId->Nat->Option Value
 cmp:BinOp->TypeId->Option Bool
 ap:TypeId->Option (List Value)
 call:FuncId->Option Value
 spec:FuncId->List Value->BI->Value->Prop
 blk:Nat
 eff:FuncId->Mem->Mem:=λ_ m=>m
 specM:FuncId->Option (List Value->Mem->Value->Prop):=λ_=>none
 cv:TypeId->TypeId->Option Value:=λ_ _=>none
 cmpY:BinOp->TypeId->Value->Option Bool:=λ_ _ _=>none
 ldA:Operand->TypeId->Option Value:=λ_ _=>none
 cmpO:BinOp->TypeId->Operand->Option Bool:=λ_ _ _=>none
 mks:TypeId->Option BI:=λ_=>none
 st:TypeId->Nat->Option BI:=λ_ _=>none
 sl:TypeId->Option Value:=λ_=>none
 apO:Operand->Option (Value×Mem):=λ_=>none
def Hint.cmpAt(H:Hint)(op:BinOp)(ty:TypeId)(y:Operand):Option Bool:=match H.cmpO op ty y with
 |some b=>some b
 |none=>H.cmp op ty
def Hint.says(H:Hint)(f:FuncId)(args:List Value)(m:Mem)(v:Value):Prop:=match H.specM f with
 |some g=>g args m v
 |none=>H.spec f args (m.get H.blk) v
theorem good_of{ps:List (Value×Value)}{qs:List Prop}(h:ps.map Prod.fst=ps.map Prod.snd)(hq:∀p∈qs,p):HI (ps,qs):=⟨Y.good_of h,hq⟩
def Xn{A:Type}(F:(A->Option (TT β))->Option (TT β))(d:Option A):Prop:=∀q b ps,F q=some (b,ps)->HI ps->∃a,d=some a/\∃ps',q a=some (b,ps')/\HI ps'
abbrev Ly(F:(Value->Mem->Option (TT β))->Option (TT β))(d:Option (Value×Mem)):Prop:=Xn (λq=>F λv m=>q (v,m)) d
abbrev sB(F:(AF->Mem->Option (TT β))->Option (TT β))(d:Option (AF×Mem)):Prop:=Xn (λq=>F λv m=>q (v,m)) d
abbrev wR(F:(List Rec->AF->Mem->Option (TT β))->Option (TT β))(d:Option (List Rec×AF×Mem)):Prop:=Xn (λq=>F λr v m=>q (r,v,m)) d
abbrev nj(F:ExK (TT β)->Option (TT β))(d:Option (Ex×AF×Mem)):Prop:=Xn (λq=>F λr v m=>q (r,v,m)) d
theorem Xn.on{A:Type}{F:(A->Option (TT β))->Option (TT β)}{d:Option A}(h:∀q,F q=(match d with|some a=>q a|none=>none)):Xn F d:=λq b ps hq hg=>by
 rw[h]at hq
 cases d with
 |none=>cases hq
 |some a=>exact⟨a,rfl,ps,hq,hg⟩
def Jb(df:DF):CF (TT β):=λf a m q=>Ev (df f a m) q
section
variable{P:Program}{K:TypeId->Bool}{G:Nat}{cf:CF (TT β)}{df:DF}
theorem H3(hcf:∀f a m,Ly (cf f a m) (df f a m))(o:Op)(t:AF)(m:Mem):Ly (opF o P K G cf t m) (Dr P K G df t m o):=by
 have h0:∀q:Value->Mem->Option (TT β),opF o P K G (Jb df) t m q=Ev (Dr P K G df t m o) q:=λq=>Tk (cf:=Jb df) (λ_ _ _ _=>rfl) o
 have on_:(∀q,opF o P K G cf t m q=opF o P K G (Jb df) t m q)->Ly (opF o P K G cf t m) (Dr P K G df t m o):=λh=>Xn.on λq=>by
  show opF o P K G cf t m _=_;rw[h,h0];cases Dr P K G df t m o<;>rfl
 cases o
 case call c=>
  obtain⟨callee,args,tys⟩:=c;cases callee with
  |invoke r s=>exact on_ λq=>rfl
  |builtin b=>exact on_ λq=>rfl
  |value f=>
   intro q b ps hq hg;have hq:(evF f G t λv=>QL v λg fs cs=>Xo args.toList G t λvs=>QM vs cs λr=>QM fs r λl=>cf g l m λv m=>q (v,m))=some (b,ps):=hq;have h1:=h0 λv m=>q (v,m);have h1:(evF f G t λv=>QL v λg fs cs=>Xo args.toList G t λvs=>QM vs cs λr=>QM fs r λl=>Ev (df g l m) λv m=>q (v,m))=Ev (Dr P K G df t m (.call ⟨.value f,args,tys⟩)) λv m=>q (v,m):=h1;simp only[B7,QN,QO]at hq h1;cases he:ev G t f with
   |none=>rw[he]at hq;cases hq
   |some v=>
    rw[he]at hq h1;simp only[ob_some]at hq h1;cases v<;>try (cases hq;done)
    rename_i fn fs cs;cases fn<;>try (cases hq;done)
    rename_i g;have hq:ob (evs G t args.toList) (λvs=>cf g (fs.toList++(vs++cs.toList)) m λv m=>q (v,m))=some (b,ps):=hq;cases hv:evs G t args.toList with
    |none=>rw[hv]at hq;cases hq
    |some vs=>
     rw[hv]at hq;simp only[ob_some]at hq;obtain⟨a,ha,r⟩:=hcf g _ m q b ps hq hg;refine⟨a,?_,r⟩;show Dr P K G df t m (.call ⟨.value f,args,tys⟩)=some a
     have:Dr P K G df t m (.call ⟨.value f,args,tys⟩)=df g (fs.toList++(vs++cs.toList)) m:=by
      simp only[Dr,Bd,Cv,he,hv]
     rw[this,ha]
 all_goals exact on_ λq=>rfl
def DL(p:Prop)(q:Option (TT β)):Option (TT β):=Option.rec (motive:=λ_=>Option (TT β)) none (λr=>some (r.1,r.2.1,p::r.2.2)) q
theorem C4{p:Prop}{q:Option (TT β)}{b:β}{ps:List (Value×Value)×List Prop}(h:DL p q=some (b,ps))(hg:HI ps):p/\∃ps',q=some (b,ps')/\HI ps':=by
 cases q with
 |none=>cases h
 |some r=>
  have h:some (r.1,r.2.1,p::r.2.2)=some (b,ps):=h;simp only[Option.some.injEq,Prod.mk.injEq]at h;obtain⟨rfl,rfl⟩:=h;exact⟨hg.2 p (List.mem_cons_self ..),r.2,rfl,hg.1,λx hx=>hg.2 x (List.mem_cons_of_mem _ hx)⟩
def NS(x:BI)(off n:Nat):Option (List Value):=match x with| .cells _ c=>if off+n<=c.length then some ((c.drop off).take n)else none|_=>none
def blkNth(x:BI)(off:Nat):Option Value:=match x with| .cells _ c=>c[off]?|_=>none
def ldOk(x:BI)(off:Nat)(g:Bool)(n:Nat)(v:Value):Prop:=match g with|true=>∃l,NS x off n=some l/\v= .agg ⟨l⟩|false=>blkNth x off=some v
def gg(v:Value):Bool:=match v with| .slice _ _ c=>Nat.beq c 0|_=>false
def NT(v:Value):Bool:=match v with| .slice (some ⟨_,o,none⟩) _ _=>Nat.beq o 0|_=>false
def QP(x:BI):Bool:=match x with| .cells _ _=>true|_=>false
def gh(v:Value):Nat:=match v with| .slice (some ⟨b,_,_⟩) _ _=>b|_=>0
def cvOk(P:Program)(x:BI)(a b:TypeId)(v u:Value):Prop:=∀m:Mem,m.get (gh v)=x->IC P m a b v=some u
def stOk(P:Program)(x:BI)(ty:TypeId)(off:Nat)(v:Value)(y:BI):Prop:=∀(m:Mem) (b:Nat),m.get b=x->Bx P m ty v (.pointer (some ⟨b,off,none⟩))=some (m.set b y)
def mkOk(P:Program)(G:Nat)(ty:TypeId)(lv cv:Value)(x:BI)(l c:Nat):Prop:=∀t lx cx,ev G t lx=some lv->ev G t cx=some cv->Eo P G t (.makeSlice ty lx cx)=some (x, .slc l c)
def apOk(x:BI)(off z by_ n:Nat)(X:List Value):Prop:=0<n/\n*by_<=140737488355328/\n<=4611686018427387904/\NS x off (n*z)=some X/\X.all one=true/\X.length=n*z
def xt(P:Program)(m:Mem)(tS tX:TypeId)(s x:Value)(X:List Value)(q:Value->Mem->Option (TT β)):Option (TT β):=
 PA s λb0 o0 n0=>PA x λb off n=>match P.underlying tS with
  |some (.slice e)=>(match Bz P e,bytesOf P e with
   |some z,some by_=>cond (Nat.beq tS tX && (Nat.beq n0 0 && (gg s && (NT s && (QP (m.get b0) && (Nat.ble 1 z && (Nat.ble 1 by_ && (Df P e 1).isSome))))))) (DL (apOk (m.get b) off z by_ n X) (q (.slice (some ⟨m.size,0,some z⟩) n n) (m.push (.cells true X)))) none
   |_,_=>none)
  |_=>none
def nk(H:Hint)(o:Op):nm (TT β):=match o with
 | .binOp op ty x y yt=>λP K G cf t m q=>match H.cmpAt op ty y with
  |some b=>evF x G t λx=>evF y G t λy=>DL (B6 P K op ty x y=some (.bool b)) (q (.bool b) m)
  |none=>evF y G t λv=>match H.cmpY op ty v with
   |some b=>evF x G t λx=>DL (B6 P K op ty x v=some (.bool b)) (q (.bool b) m)
   |none=>opF (.binOp op ty x y yt) P K G cf t m q
 | .call ⟨.builtin .append,args,tys⟩=>λP K G cf t m q=>match args.toList,tys.toList with
  | [s,x],[tS,tX]=>(match H.apO x with
   |some r=>evF s G t λs=>evF x G t λx=>DL (Bi P m tS tX s x=some r) (q r.1 r.2)
   |none=>(match H.ap tS with
    |some X=>evF s G t λs=>evF x G t λx=>xt P m tS tX s x X q
    |none=>opF (.call ⟨.builtin .append,args,tys⟩) P K G cf t m q))
  |_,_=>none
 | .load ty a=>λP K G cf t m q=>evF a G t λv=>JH v λb off=>match(match H.ldA a ty with|some u=>some u|none=>H.ld b ty off)with
  |some u=>(match GW P ty,Bz P ty with|some g,some n=>DL (ldOk (m.get b) off g n u) (Tl P ty u λu=>q u m)|_,_=>none)
  |none=>opF (.load ty a) P K G cf t m q
 | .slice ty x (some lo) (some hi) none=>λP K G cf t m q=>match H.sl ty with
  |some u=>evF x G t λxv=>evF lo G t λlv=>evF hi G t λhv=>DL (LB P ty xv (some lv) (some hv) none=some u) (q u m)
  |none=>opF (.slice ty x (some lo) (some hi) none) P K G cf t m q
 | .store ty a x=>λP K G cf t m q=>evF a G t λav=>JH av λb off=>match H.st ty b with
  |some y=>evF x G t λv=>DL (stOk P (m.get b) ty off v y) (q undef (m.set b y))
  |none=>opF (.store ty a x) P K G cf t m q
 | .makeSlice ty l c=>λP K G cf t m q=>match H.mks ty with
  |some x=>evF l G t λlv=>evF c G t λcv=>Y.asInt lv (λ_ lz=>Y.asInt cv (λ_ cz=>DL (mkOk P G ty lv cv x lz.toNat cz.toNat) (q (.slice (some ⟨m.size,0,none⟩) lz.toNat cz.toNat) (m.push x))) none) none
  |none=>opF (.makeSlice ty l c) P K G cf t m q
 | .convert a b y=>λP K G cf t m q=>match H.cv a b with
  |some u=>evF y G t λv=>DL (cvOk P (m.get (gh v)) a b v u) (q u m)
  |none=>opF (.convert a b y) P K G cf t m q
 | .indexAddr ty x i=>λP K G cf t m q=>cond (H.ix ty) (evF x G t λx=>evF i G t λi=>Y.asInt i (λ_ i=>PA x λb off len=>match qn P ty with
   |some (none,size)=>DL (0<=i/\i< (len:Int)) (q (.pointer (some ⟨b,Nat.add off (Nat.mul i.toNat size),none⟩)) m)
   |_=>none) none) (opF (.indexAddr ty x i) P K G cf t m q)
 |o=>opF o
theorem VY{P:Program}{K:TypeId->Bool}{G:Nat}{cf:CF (TT β)}{df:DF}(H:Hint)(hcf:∀f a m,Ly (cf f a m) (df f a m))(o:Op)(t:AF)(m:Mem):Ly (nk H o P K G cf t m) (Dr P K G df t m o):=by
 have hoff:(nk H o:nm (TT β))=opF o->Ly (nk H o P K G cf t m) (Dr P K G df t m o):=λe=>by
  rw[e];exact H3 hcf o t m
 cases o
 case load ty a=>
  intro q b ps hq hg
  have hq:(evF a G t λv=>JH v λb off=>match(match H.ldA a ty with|some u=>some u|none=>H.ld b ty off)with
   |some u=>(match GW P ty,Bz P ty with|some g,some n=>DL (ldOk (m.get b) off g n u) (Tl P ty u λu=>q (u,m))|_,_=>none)
   |none=>opF (.load ty a) P K G cf t m λv m=>q (v,m))=some (b,ps):=hq
  rw[B7]at hq;cases he:ev G t a with
  |none=>rw[he]at hq;cases hq
  |some v=>
   rw[he]at hq;simp only[ob_some,GJ]at hq
   have key:∀bk off,v= .pointer (some ⟨bk,off,none⟩)->(match(match H.ldA a ty with|some u=>some u|none=>H.ld bk ty off)with
    |some u=>(match GW P ty,Bz P ty with|some g,some n=>DL (ldOk (m.get bk) off g n u) (Tl P ty u λu=>q (u,m))|_,_=>none)
    |none=>opF (.load ty a) P K G cf t m λv m=>q (v,m))=some (b,ps)->∃x,Dr P K G df t m (.load ty a)=some x/\∃ps',q x=some (b,ps')/\HI ps':=by
    rintro bk off rfl hq;cases hh:(match H.ldA a ty with|some u=>some u|none=>H.ld bk ty off)with
    |none=>rw[hh]at hq;exact H3 hcf (.load ty a) t m q b ps hq hg
    |some u=>
     rw[hh]at hq;simp only at hq;cases ha:GW P ty with
     |none=>rw[ha]at hq;cases hq
     |some g=>
      cases hs:Bz P ty with
      |none=>rw[ha,hs]at hq;cases hq
      |some n=>
       rw[ha,hs]at hq;obtain⟨h1,ps1,h2,g2⟩:=C4 hq hg;rw[IJ]at h2
       have hl:EF P m ty (.pointer (some ⟨bk,off,none⟩))=some u:=by
        cases g with
        |true=>
         obtain⟨l,h3,rfl⟩:=h1;simp only[EF,ha,hs];unfold NS at h3;unfold DB;cases hb:m.get bk<;>rw[hb]at h3<;>simp_all
        |false=>
         have h3:blkNth (m.get bk) off=some u:=h1;simp only[EF,ha];unfold blkNth at h3;cases hb:m.get bk<;>rw[hb]at h3<;>simp_all
       cases hsh:T7 P ty (some u)with
       |none=>rw[hsh]at h2;cases h2
       |some u'=>
        rw[hsh]at h2;refine⟨(u',m),?_,ps1,h2,g2⟩;simp only[Dr,Bd,BV,he,hl,hsh]
   cases v<;>try (cases hq;done)
   rename_i ad;cases ad with
   |none=>cases hq
   |some ad=>
    obtain⟨bk,off,sp⟩:=ad;cases sp with
    |some _=>cases hq
    |none=>exact key bk off rfl hq
 case indexAddr ty x i=>
  intro q b ps hq hg
  have hq:(cond (H.ix ty) (evF x G t λx=>evF i G t λi=>Y.asInt i (λ_ i=>PA x λb off len=>match qn P ty with
   |some (none,size)=>DL (0<=i/\i< (len:Int)) (q (.pointer (some ⟨b,Nat.add off (Nat.mul i.toNat size),none⟩),m))
   |_=>none) none) (opF (.indexAddr ty x i) P K G cf t m λv m=>q (v,m)))=some (b,ps):=hq
  cases hx:H.ix ty with
  |false=>rw[hx]at hq;exact H3 hcf (.indexAddr ty x i) t m q b ps hq hg
  |true=>
   rw[hx]at hq;simp only[cond_true,B7]at hq;cases he:ev G t x with
   |none=>rw[he]at hq;cases hq
   |some xv=>
    rw[he]at hq;simp only[ob_some]at hq;cases hi:ev G t i with
    |none=>rw[hi]at hq;cases hq
    |some iv=>
     rw[hi]at hq;simp only[ob_some]at hq;cases iv<;>try (cases hq;done)
     rename_i ik iz;cases xv<;>try (cases hq;done)
     rename_i sa sn sc;cases sa with
     |none=>cases hq
     |some sa=>
      obtain⟨bk,off,sp⟩:=sa
      have hq:(match qn P ty with
       |some (none,size)=>DL (0<=iz/\iz< (sn:Int)) (q (.pointer (some ⟨bk,Nat.add off (Nat.mul iz.toNat size),none⟩),m))
       |_=>none)=some (b,ps):=hq
      unfold qn at hq;cases hu:P.underlying ty with
      |none=>rw[hu]at hq;cases hq
      |some d=>
       rw[hu]at hq;cases d<;>try (cases hq;done)
       ·rename_i e;simp only at hq;cases hs:Bz P e with
        |none=>rw[hs]at hq;cases hq
        |some size=>
         rw[hs]at hq;simp only at hq;obtain⟨h1,ps1,h2,g2⟩:=C4 hq hg;refine⟨(_,m),?_,ps1,h2,g2⟩;simp only[Dr,Bd,BV,he,hi,E0,hu,hs,if_pos h1];rfl
       ·rename_i len e;simp only at hq;cases hs:Bz P e<;>rw[hs]at hq<;>cases hq
 case slice ty x lo hi mx=>
  cases lo with
  |none=>exact hoff rfl
  |some lo=>
  cases hi with
  |none=>exact hoff rfl
  |some hi=>
  cases mx with
  |some mx=>exact hoff rfl
  |none=>
  intro q b ps hq hg
  have hq:(match H.sl ty with
   |some u=>evF x G t λxv=>evF lo G t λlv=>evF hi G t λhv=>DL (LB P ty xv (some lv) (some hv) none=some u) (q (u,m))
   |none=>opF (.slice ty x (some lo) (some hi) none) P K G cf t m λv m=>q (v,m))=some (b,ps):=hq
  cases hc:H.sl ty with
  |none=>rw[hc]at hq;exact H3 hcf (.slice ty x (some lo) (some hi) none) t m q b ps hq hg
  |some u=>
   rw[hc]at hq;simp only[B7]at hq;cases he:ev G t x with
   |none=>rw[he]at hq;cases hq
   |some xv=>
    rw[he]at hq;simp only[ob_some]at hq;cases h2:ev G t lo with
    |none=>rw[h2]at hq;cases hq
    |some lv=>
     rw[h2]at hq;simp only[ob_some]at hq;cases h3:ev G t hi with
     |none=>rw[h3]at hq;cases hq
     |some hv=>
      rw[h3]at hq;simp only[ob_some]at hq;obtain⟨h4,ps1,h5,g5⟩:=C4 hq hg;refine⟨(u,m),?_,ps1,h5,g5⟩;simp only[Dr,Bd,BV,he,JG,h2,h3,h4]
 case store ty a x=>
  intro q b ps hq hg
  have hq:(evF a G t λav=>JH av λb off=>match H.st ty b with
   |some y=>evF x G t λv=>DL (stOk P (m.get b) ty off v y) (q (undef,m.set b y))
   |none=>opF (.store ty a x) P K G cf t m λv m=>q (v,m))=some (b,ps):=hq
  rw[B7]at hq;cases he:ev G t a with
  |none=>rw[he]at hq;cases hq
  |some av=>
   rw[he]at hq;simp only[ob_some,GJ]at hq;cases av<;>try (cases hq;done)
   rename_i ad;cases ad with
   |none=>cases hq
   |some ad=>
    obtain⟨bk,off,sp⟩:=ad;cases sp with
    |some _=>cases hq
    |none=>
     have hq:(match H.st ty bk with
      |some y=>evF x G t λv=>DL (stOk P (m.get bk) ty off v y) (q (undef,m.set bk y))
      |none=>opF (.store ty a x) P K G cf t m λv m=>q (v,m))=some (b,ps):=hq
     cases hc:H.st ty bk with
     |none=>rw[hc]at hq;exact H3 hcf (.store ty a x) t m q b ps hq hg
     |some y=>
      rw[hc]at hq;simp only[B7]at hq;cases hi:ev G t x with
      |none=>rw[hi]at hq;cases hq
      |some v=>
       rw[hi]at hq;simp only[ob_some]at hq;obtain⟨h1,ps1,h2,g2⟩:=C4 hq hg;refine⟨(undef,m.set bk y),?_,ps1,h2,g2⟩;simp only[Dr,Bd,Cv,he,hi,h1 m bk rfl]
 case makeSlice ty l c=>
  intro q b ps hq hg
  have hq:(match H.mks ty with
   |some x=>evF l G t λlv=>evF c G t λcv=>Y.asInt lv (λ_ lz=>Y.asInt cv (λ_ cz=>DL (mkOk P G ty lv cv x lz.toNat cz.toNat) (q (.slice (some ⟨m.size,0,none⟩) lz.toNat cz.toNat,m.push x))) none) none
   |none=>opF (.makeSlice ty l c) P K G cf t m λv m=>q (v,m))=some (b,ps):=hq
  cases hc:H.mks ty with
  |none=>rw[hc]at hq;exact H3 hcf (.makeSlice ty l c) t m q b ps hq hg
  |some x=>
   rw[hc]at hq;simp only[B7]at hq;cases he:ev G t l with
   |none=>rw[he]at hq;cases hq
   |some lv=>
    rw[he]at hq;simp only[ob_some]at hq;cases hi:ev G t c with
    |none=>rw[hi]at hq;cases hq
    |some cv=>
     rw[hi]at hq;simp only[ob_some]at hq;cases lv<;>try (cases hq;done)
     cases cv<;>try (cases hq;done)
     obtain⟨h1,ps1,h2,g2⟩:=C4 hq hg;refine⟨(_,m.push x),?_,ps1,h2,g2⟩;simp only[Dr,Bd,h1 t l c he hi];rfl
 case convert a b' y=>
  intro q b ps hq hg
  have hq:(match H.cv a b' with
   |some u=>evF y G t λv=>DL (cvOk P (m.get (gh v)) a b' v u) (q (u,m))
   |none=>opF (.convert a b' y) P K G cf t m λv m=>q (v,m))=some (b,ps):=hq
  cases hc:H.cv a b' with
  |none=>rw[hc]at hq;exact H3 hcf (.convert a b' y) t m q b ps hq hg
  |some u=>
   rw[hc]at hq;simp only[B7]at hq;cases he:ev G t y with
   |none=>rw[he]at hq;cases hq
   |some v=>
    rw[he]at hq;simp only[ob_some]at hq;obtain⟨h1,ps1,h2,g2⟩:=C4 hq hg;refine⟨(_,m),?_,ps1,h2,g2⟩;simp only[Dr,Bd,BV,he,h1 m rfl]
 case binOp op ty x y yt=>
  intro q b ps hq hg
  have hq:(match H.cmpAt op ty y with
   |some b=>evF x G t λx=>evF y G t λy=>DL (B6 P K op ty x y=some (.bool b)) (q (.bool b,m))
   |none=>evF y G t λv=>match H.cmpY op ty v with
    |some b=>evF x G t λx=>DL (B6 P K op ty x v=some (.bool b)) (q (.bool b,m))
    |none=>opF (.binOp op ty x y yt) P K G cf t m λv m=>q (v,m))=some (b,ps):=hq
  cases hc:H.cmpAt op ty y with
  |none=>
   rw[hc]at hq;simp only[B7]at hq;cases hi:ev G t y with
   |none=>rw[hi]at hq;cases hq
   |some yv=>
    rw[hi]at hq;simp only[ob_some]at hq;cases hy:H.cmpY op ty yv with
    |none=>rw[hy]at hq;exact H3 hcf (.binOp op ty x y yt) t m q b ps hq hg
    |some w=>
     rw[hy]at hq;simp only at hq;cases he:ev G t x with
     |none=>rw[he]at hq;cases hq
     |some xv=>
      rw[he]at hq;simp only[ob_some]at hq;obtain⟨h1,ps1,h2,g2⟩:=C4 hq hg;refine⟨(_,m),?_,ps1,h2,g2⟩;simp only[Dr,Bd,BV,he,hi,h1]
  |some w=>
   rw[hc]at hq;simp only[B7]at hq;cases he:ev G t x with
   |none=>rw[he]at hq;cases hq
   |some xv=>
    rw[he]at hq;simp only[ob_some]at hq;cases hi:ev G t y with
    |none=>rw[hi]at hq;cases hq
    |some yv=>
     rw[hi]at hq;simp only[ob_some]at hq;obtain⟨h1,ps1,h2,g2⟩:=C4 hq hg;refine⟨(_,m),?_,ps1,h2,g2⟩;simp only[Dr,Bd,BV,he,hi,h1]
 case call c=>
  obtain⟨callee,args,tys⟩:=c;cases callee with
  |value f=>exact hoff rfl
  |invoke r s=>exact hoff rfl
  |builtin bi=>
   by_cases hb:bi= .append
   ·subst hb;intro q b ps hq hg
    have hq:(match args.toList,tys.toList with
     | [s,x],[tS,tX]=>(match H.apO x with
      |some r=>evF s G t λs=>evF x G t λx=>DL (Bi P m tS tX s x=some r) (q r)
      |none=>(match H.ap tS with
       |some X=>evF s G t λs=>evF x G t λx=>xt P m tS tX s x X λv m=>q (v,m)
       |none=>opF (.call ⟨.builtin .append,args,tys⟩) P K G cf t m λv m=>q (v,m)))
     |_,_=>none)=some (b,ps):=hq
    split at hq<;>try (cases hq;done)
    rename_i s x tS tX ha ht;cases hO:H.apO x with
    |some r=>
     rw[hO]at hq;simp only[B7]at hq;cases he:ev G t s with
     |none=>rw[he]at hq;cases hq
     |some sv=>
      rw[he]at hq;simp only[ob_some]at hq;cases hi:ev G t x with
      |none=>rw[hi]at hq;cases hq
      |some xv=>
       rw[hi]at hq;simp only[ob_some]at hq;obtain⟨h1,ps1,h2,g2⟩:=C4 hq hg;refine⟨r,?_,ps1,h2,g2⟩;simp only[Dr,Bd,Cv,ha,ht,he,hi,h1]
    |none=>
    rw[hO]at hq;simp only at hq;cases hp:H.ap tS with
    |none=>rw[hp]at hq;exact H3 hcf (.call ⟨.builtin .append,args,tys⟩) t m q b ps hq hg
    |some X=>
     rw[hp]at hq;simp only[B7]at hq;cases he:ev G t s with
     |none=>rw[he]at hq;cases hq
     |some sv=>
      rw[he]at hq;simp only[ob_some]at hq;cases hi:ev G t x with
      |none=>rw[hi]at hq;cases hq
      |some xv=>
       rw[hi]at hq;simp only[ob_some]at hq;cases sv<;>try (cases hq;done)
       rename_i sa sn sc;cases sa with
       |none=>cases hq
       |some sa=>
       obtain⟨b0,o0,sp0⟩:=sa;cases xv<;>try (cases hq;done)
       rename_i xa xn xc;cases xa with
       |none=>cases hq
       |some xa=>
       obtain⟨bk,off,sp⟩:=xa
       have hq2:(match P.underlying tS with
        |some (.slice e)=>(match Bz P e,bytesOf P e with
         |some z,some by_=>cond (Nat.beq tS tX && (Nat.beq sn 0 && (gg (.slice (some ⟨b0,o0,sp0⟩) sn sc) && (NT (.slice (some ⟨b0,o0,sp0⟩) sn sc) && (QP (m.get b0) && (Nat.ble 1 z && (Nat.ble 1 by_ && (Df P e 1).isSome))))))) (DL (apOk (m.get bk) off z by_ xn X) (q (.slice (some ⟨m.size,0,some z⟩) xn xn,m.push (.cells true X)))) none
         |_,_=>none)
        |_=>none)=some (b,ps):=hq
       split at hq2<;>try (cases hq2;done)
       rename_i e hu;split at hq2<;>try (cases hq2;done)
       rename_i z by_ hz hby
       cases hk:(Nat.beq tS tX && (Nat.beq sn 0 && (gg (.slice (some ⟨b0,o0,sp0⟩) sn sc) && (NT (.slice (some ⟨b0,o0,sp0⟩) sn sc) && (QP (m.get b0) && (Nat.ble 1 z && (Nat.ble 1 by_ && (Df P e 1).isSome)))))))with
       |false=>rw[hk]at hq2;cases hq2
       |true=>
        rw[hk]at hq2;simp only[Bool.and_eq_true,Nat.beq_eq]at hk;obtain⟨k1,k2,k3,k4,k5,k6,k7,k8⟩:=hk;subst k1 k2;cases sp0 with
        |some _=>simp[NT]at k4
        |none=>
        have e4:o0=0:=by simpa[NT]using k4
        have e3:sc=0:=by simpa[gg]using k3
        subst e3 e4;obtain⟨⟨h0,h1,h2,h3,h4,h5⟩,ps1,h6,g6⟩:=C4 hq2 hg;refine⟨_,?_,ps1,h6,g6⟩
        have hf:Ca m z xn (.slice (some ⟨bk,off,sp⟩) xn xc)=some X:=by
         show DB m bk off (xn*z)=some X;unfold NS at h3;unfold DB;cases hb:m.get bk<;>rw[hb]at h3<;>simp_all
        have hf0:Ca m z 0 (.slice (some ⟨b0,0,none⟩) 0 0)=some []:=by
         show DB m b0 0 (0*z)=some [];unfold DB;cases hb:m.get b0<;>rw[hb]at k5<;>simp_all [QP]
        have h6':1<=z:=Nat.le_of_ble_eq_true k6;have h7':1<=by_:=Nat.le_of_ble_eq_true k7
        have key:Bi P m tS tS (.slice (some ⟨b0,0,none⟩) 0 0) (.slice (some ⟨bk,off,sp⟩) xn xc)=some (.slice (some ⟨m.size,0,some z⟩) xn xn,m.push (.cells true X)):=by
         unfold Bi;simp only[hu,hz,hby,lenOf,hf,hf0];rw[if_neg (by omega),if_neg (by omega),if_pos ⟨by rw[Nat.zero_add];exact h1,by omega,by omega,k8⟩,if_pos ⟨by rw[h4];rfl,by simp,h5⟩];simp
        simp only[Dr,Bd,Cv,ha,ht,he,hi,key]
   ·exact hoff (by cases bi<;>first|rfl|exact absurd rfl hb)
 all_goals exact hoff rfl
end
def aE(H:Hint)(l:List Oper):gi (TT β):=
 List.rec (motive:=λ_=>gi (TT β)) (λ_ _ _ _ _ _ t m q=>q [] t m)
  (λo _ ih P K G cf n ops t m q=>Bool.rec (motive:=λ_=>Option (TT β)) none (Bool.rec (motive:=λ_=>Option (TT β)) (putOF t o.dst undef λt'=>ih P K G cf n ops t' m λrs t' m''=>q (⟨false,undef,t,m⟩::rs) t' m'')
   (nk H o.op P K G cf t m λv m'=>putOF t o.dst v λt'=>ih P K G cf n ops t' m' λrs t' m''=>q (⟨true,v,t,m⟩::rs) t' m'') (wantF o ops t)) (dstF n o.dst)) l
def opsH(H:Hint)(l:List Oper):gj (TT β):=
 List.rec (motive:=λ_=>gj (TT β)) (λ_ _ _ _ _ _ t m q=>q t m)
  (λo _ ih P K G cf n ops t m q=>Bool.rec (motive:=λ_=>Option (TT β)) none (Bool.rec (motive:=λ_=>Option (TT β)) (putOF t o.dst undef λt'=>ih P K G cf n ops t' m q)
   (nk H o.op P K G cf t m λv m'=>putOF t o.dst v λt'=>ih P K G cf n ops t' m' q) (wantF o ops t)) (dstF n o.dst)) l
section
variable{P:Program}{K:TypeId->Bool}{G:Nat}{cf:CF (TT β)}{df:DF}
theorem QQ(H:Hint)(hcf:∀f a m,Ly (cf f a m) (df f a m))(n:Nat)(ops:List Oper):∀(l:List Oper) (t:AF) (m:Mem),wR (aE H l P K G cf n ops t m) (HM P K G df n ops l t m)
 | [],t,m=>Xn.on λq=>rfl
 |o::l,t,m=>λq b ps hq hg=>by
  have hq:Bool.rec (motive:=λ_=>Option (TT β)) none (Bool.rec (motive:=λ_=>Option (TT β)) (putOF t o.dst undef λt'=>aE H l P K G cf n ops t' m λrs t' m''=>q (⟨false,undef,t,m⟩::rs,t',m''))
   (nk H o.op P K G cf t m λv m'=>putOF t o.dst v λt'=>aE H l P K G cf n ops t' m' λrs t' m''=>q (⟨true,v,t,m⟩::rs,t',m'')) (wantF o ops t)) (dstF n o.dst)=some (b,ps):=hq
  simp only[KO,KP,MN]at hq;simp only[HM];cases hd:HL n o.dst with
  |false=>rw[hd]at hq;cases hq
  |true=>
   rw[hd]at hq;cases hw:Region.wanted o (EY ops t)with
   |false=>
    rw[hw]at hq;obtain⟨⟨rs,t',m'⟩,h1,h2⟩:=QQ H hcf n ops l (putD t o.dst undef) m (λp=>q (⟨false,undef,t,m⟩::p.1,p.2.1,p.2.2)) b ps hq hg;exact⟨_,by simp only[if_true,h1];rfl,h2⟩
   |true=>
    rw[hw]at hq;obtain⟨⟨v,m1⟩,h1,ps1,h2,g2⟩:=VY H hcf o.op t m (λp=>aE H l P K G cf n ops (putD t o.dst p.1) p.2 λrs t' m''=>q (⟨true,p.1,t,m⟩::rs,t',m'')) b ps hq hg;obtain⟨⟨rs,t',m'⟩,h3,h4⟩:=QQ H hcf n ops l (putD t o.dst v) m1 (λp=>q (⟨true,v,t,m⟩::p.1,p.2.1,p.2.2)) b ps1 h2 g2;exact⟨_,by simp only[if_true,h1,h3],h4⟩
theorem ops_fac(H:Hint)(hcf:∀f a m,Ly (cf f a m) (df f a m))(n:Nat)(ops:List Oper):∀(l:List Oper) (t:AF) (m:Mem),sB (opsH H l P K G cf n ops t m) (EM P K G df n ops l t m)
 | [],t,m=>Xn.on λq=>rfl
 |o::l,t,m=>λq b ps hq hg=>by
  have hq:Bool.rec (motive:=λ_=>Option (TT β)) none (Bool.rec (motive:=λ_=>Option (TT β)) (putOF t o.dst undef λt'=>opsH H l P K G cf n ops t' m λt' m''=>q (t',m''))
   (nk H o.op P K G cf t m λv m'=>putOF t o.dst v λt'=>opsH H l P K G cf n ops t' m' λt' m''=>q (t',m'')) (wantF o ops t)) (dstF n o.dst)=some (b,ps):=hq
  simp only[KO,KP,MN]at hq;simp only[EM];cases hd:HL n o.dst with
  |false=>rw[hd]at hq;cases hq
  |true=>
   rw[hd]at hq;cases hw:Region.wanted o (EY ops t)with
   |false=>
    rw[hw]at hq;obtain⟨a,h1,h2⟩:=ops_fac H hcf n ops l (putD t o.dst undef) m q b ps hq hg;exact⟨a,by simp only[if_true];exact h1,h2⟩
   |true=>
    rw[hw]at hq;obtain⟨⟨v,m1⟩,h1,ps1,h2,g2⟩:=VY H hcf o.op t m (λp=>opsH H l P K G cf n ops (putD t o.dst p.1) p.2 λt' m''=>q (t',m'')) b ps hq hg;obtain⟨a,h3,h4⟩:=ops_fac H hcf n ops l (putD t o.dst v) m1 q b ps1 h2 g2;exact⟨a,by simp only[if_true,h1];exact h3,h4⟩
end
def kl(v' v:Value)(q:Option (TT β)):Option (TT β):=Bool.rec (motive:=λ_=>Option (TT β)) none (Option.rec (motive:=λ_=>Option (TT β)) none (λp=>some (p.1,(v',v)::p.2.1,p.2.2)) q) (aF 8 v)
def nq(H:Hint)(P:Program)(K:TypeId->Bool)(G:Nat)(ops:List Oper)(rs:List Rec)(m':Mem)(x:Nat×Nat)(q:Option (TT β)):Option (TT β):=
 match rs[x.1]?,ops[x.1]? with
 |some r,some o=>Bool.rec (motive:=λ_=>Option (TT β)) q (match o.op with
   | .load ty a=>evF a G r.t λv=>JH v λb off=>match H.ld b ty off with
    |some u=>(match GW P ty,Bz P ty with|some g,some n=>DL (ldOk ((C8 rs m' x.2).get b) off g n u) (Tl P ty u λv'=>kl v' r.v q)|_,_=>none)
    |none=>Lk P (C8 rs m' x.2) ty v λv=>Tl P ty v λv'=>kl v' r.v q
   | .convert a b y=>evF y G r.t λv=>(match H.cv a b with
    |some u=>DL (cvOk P ((C8 rs m' x.2).get (gh v)) a b v u) (kl u r.v q)
    |none=>ob (IC P (C8 rs m' x.2) a b v) λv'=>kl v' r.v q)
   |_=>Bool.rec (motive:=λ_=>Option (TT β)) none q (Hm P K G ops rs m' x)) r.want
 |_,_=>none
theorem KQ{v' v:Value}{q:Option (TT β)}{b:β}{ps:List (Value×Value)×List Prop}(h:kl v' v q=some (b,ps))(hg:HI ps):Ov 8 v' v=true/\∃ps',q=some (b,ps')/\HI ps':=by
 unfold kl at h
 cases hs:aF 8 v with
 |false=>rw[hs]at h;cases h
 |true=>
  rw[hs]at h;cases q with
  |none=>cases h
  |some p=>
   have h:some (p.1,(v',v)::p.2.1,p.2.2)=some (b,ps):=h;simp only[Option.some.injEq,Prod.mk.injEq]at h;obtain⟨rfl,rfl⟩:=h;have e:v'=v:=hg.1 (v',v) (List.mem_cons_self ..);subst e;exact⟨Rf 8 _ hs,p.2,rfl,λx hx=>hg.1 x (List.mem_cons_of_mem _ hx),hg.2⟩
theorem Xp{H:Hint}{P:Program}{K:TypeId->Bool}{G:Nat}{ops:List Oper}{rs:List Rec}{m':Mem}{x:Nat×Nat}{q:Option (TT β)}{b:β}{ps:List (Value×Value)×List Prop}(h:nq H P K G ops rs m' x q=some (b,ps))(hg:HI ps):Hm P K G ops rs m' x=true/\∃ps',q=some (b,ps')/\HI ps':=by
 unfold nq at h
 have hc:Hm P K G ops rs m' x=(match rs[x.1]?,ops[x.1]? with
  |some r,some o=> !r.want||(match BV P K G r.t (C8 rs m' x.2) o.op with|some v=>Ov 8 v r.v|none=>false)
  |_,_=>false):=rfl
 cases hr:rs[x.1]? with
 |none=>rw[hr]at h;cases h
 |some r=>
  cases ho:ops[x.1]? with
  |none=>rw[hr,ho]at h;cases h
  |some o=>
   rw[hr,ho]at hc h;simp only at hc h;cases hw:r.want with
   |false=>
    rw[hw]at hc h;exact⟨by rw[hc];rfl,ps,h,hg⟩
   |true=>
    rw[hw]at h;simp only at h
    have hgen:Bool.rec (motive:=λ_=>Option (TT β)) none q (Hm P K G ops rs m' x)=some (b,ps)->Hm P K G ops rs m' x=true/\∃ps',q=some (b,ps')/\HI ps':=λh=>by
     cases hk:Hm P K G ops rs m' x with
     |false=>rw[hk]at h;cases h
     |true=>rw[hk]at h;exact⟨rfl,ps,h,hg⟩
    cases hop:o.op<;>rw[hop]at h<;>try (exact hgen h)
    case convert a b' y=>
     rw[hc,hw,hop];simp only[B7]at h;simp only[BV,Bool.not_true,Bool.false_or];cases he:ev G r.t y with
     |none=>rw[he]at h;cases h
     |some v=>
      rw[he]at h;simp only[ob_some]at h;cases hcv:H.cv a b' with
      |some u=>
       rw[hcv]at h;simp only at h;obtain⟨h1,ps1,h2,g2⟩:=C4 h hg;simp only[h1 _ rfl];exact KQ h2 g2
      |none=>
      rw[hcv]at h;simp only at h;cases hv:IC P (C8 rs m' x.2) a b' v with
      |none=>rw[hv]at h;cases h
      |some v'=>rw[hv]at h;simp only[hv];exact KQ h hg
    rename_i ty a;rw[hc,hw,hop];simp only[B7]at h;simp only[BV,Bool.not_true,Bool.false_or];cases he:ev G r.t a with
    |none=>rw[he]at h;cases h
    |some v=>
     rw[he]at h;simp only[ob_some,GJ]at h ⊢
     have key:∀bk off,v= .pointer (some ⟨bk,off,none⟩)->(match H.ld bk ty off with
      |some u=>(match GW P ty,Bz P ty with|some g,some n=>DL (ldOk ((C8 rs m' x.2).get bk) off g n u) (Tl P ty u λv'=>kl v' r.v q)|_,_=>none)
      |none=>Lk P (C8 rs m' x.2) ty v λv=>Tl P ty v λv'=>kl v' r.v q)=some (b,ps)->(match T7 P ty (EF P (C8 rs m' x.2) ty v)with|some v=>Ov 8 v r.v|none=>false)=true/\∃ps',q=some (b,ps')/\HI ps':=by
      rintro bk off rfl h;cases hh:H.ld bk ty off with
      |none=>
       rw[hh]at h;simp only[KR,IJ]at h;cases hl:EF P (C8 rs m' x.2) ty (.pointer (some ⟨bk,off,none⟩))with
       |none=>rw[hl]at h;cases h
       |some u=>
        rw[hl]at h;simp only[ob_some]at h;cases hs:T7 P ty (some u)with
        |none=>rw[hs]at h;cases h
        |some u'=>
         rw[hs]at h;simp only[ob_some]at h;simp only[hs];exact KQ h hg
      |some u=>
       rw[hh]at h;simp only at h;cases ha:GW P ty with
       |none=>rw[ha]at h;cases h
       |some g=>
        cases hs:Bz P ty with
        |none=>rw[ha,hs]at h;cases h
        |some n=>
         rw[ha,hs]at h;obtain⟨h1,ps1,h2,g2⟩:=C4 h hg;rw[IJ]at h2
         have hl:EF P (C8 rs m' x.2) ty (.pointer (some ⟨bk,off,none⟩))=some u:=by
          cases g with
          |true=>
           obtain⟨l,h3,rfl⟩:=h1;simp only[EF,ha,hs];unfold NS at h3;unfold DB;cases hb:(C8 rs m' x.2).get bk<;>rw[hb]at h3<;>simp_all
          |false=>
           have h3:blkNth ((C8 rs m' x.2).get bk) off=some u:=h1;simp only[EF,ha];unfold blkNth at h3;cases hb:(C8 rs m' x.2).get bk<;>rw[hb]at h3<;>simp_all
         rw[hl];cases hsh:T7 P ty (some u)with
         |none=>rw[hsh]at h2;cases h2
         |some u'=>
          rw[hsh]at h2;simp only[ob_some]at h2;simp only[hsh];exact KQ h2 g2
     cases v<;>try (cases h;done)
     rename_i ad;cases ad with
     |none=>cases h
     |some ad=>
      obtain⟨bk,off,sp⟩:=ad;cases sp with
      |some _=>cases h
      |none=>exact key bk off rfl h
def VZ(H:Hint)(P:Program)(K:TypeId->Bool)(G:Nat)(ops:List Oper)(rs:List Rec)(m':Mem)(l:List (Nat×Nat))(q:Option (TT β)):Option (TT β):=
 List.rec (motive:=λ_=>Option (TT β)) q (λx _ ih=>nq H P K G ops rs m' x ih) l
theorem NU{H:Hint}{P:Program}{K:TypeId->Bool}{G:Nat}{ops:List Oper}{rs:List Rec}{m':Mem}{q:Option (TT β)}{b:β}:∀{l:List (Nat×Nat)} {ps:List (Value×Value)×List Prop},VZ H P K G ops rs m' l q=some (b,ps)->HI ps->l.all (Hm P K G ops rs m')=true/\∃ps',q=some (b,ps')/\HI ps'
 | [],ps,h,hg=>⟨rfl,ps,h,hg⟩
 |x::l,ps,h,hg=>by
  obtain⟨h1,ps1,h2,g2⟩:=Xp (q:=VZ H P K G ops rs m' l q) h hg;obtain⟨h3,r⟩:=NU h2 g2;exact⟨by rw[List.all_cons,h1,h3];rfl,r⟩
def V0(H:Hint)(P:Program)(K:TypeId->Bool)(G:Nat)(cf:CF (TT β))(n:Nat)(ops:List Oper)(t:AF)(m:Mem)(q:AF->Mem->Option (TT β)):Option (TT β):=
 Bool.rec (motive:=λ_=>Option (TT β)) none (aE H ops P K G cf n ops t m λrs t' m'=>VZ H P K G ops rs m' (LI ops) (Bool.rec (motive:=λ_=>Option (TT β)) none (q t' m')
  ((Jc ops).all (R9 rs m')))) (Rg ops)
theorem aG(H:Hint){P:Program}{K:TypeId->Bool}{G:Nat}{cf:CF (TT β)}{df:DF}(hcf:∀f a m,Ly (cf f a m) (df f a m))(n:Nat)(ops:List Oper)(t:AF)(m:Mem):sB (V0 H P K G cf n ops t m) (AV P K G df n ops t m):=λq b ps hq hg=>by
 have hq:V0 H P K G cf n ops t m (λt' m'=>q (t',m'))=some (b,ps):=hq
 unfold V0 at hq
 unfold AV
 simp only[Rh]at hq
 cases hs:Lg ops (Cz ops [])with
 |false=>rw[hs]at hq;cases hq
 |true=>
  rw[hs]at hq;obtain⟨⟨rs,t',m'⟩,h1,ps1,h2,g2⟩:=QQ H hcf n ops ops t m (λp=>VZ H P K G ops p.1 p.2.2 (LI ops) (Bool.rec (motive:=λ_=>Option (TT β)) none (q (p.2.1,p.2.2)) ((Jc ops).all (R9 p.1 p.2.2)))) b ps hq hg;obtain⟨h3,ps2,h4,g4⟩:=NU h2 g2;simp only at h4;cases h5:(Jc ops).all (R9 rs m')with
  |false=>rw[h5]at h4;cases h4
  |true=>
   rw[h5]at h4;refine⟨(t',m'),?_,ps2,h4,g4⟩;simp only[if_true,h1];rw[if_pos (by rw[←FX (NV ops)];exact h3),if_pos (by rw[←FX (NW ops)];exact h5)]
def codeT(H:Hint)(c:Code):V1 (TT β):=
 Code.rec (motive:=λ_=>V1 (TT β))
  (λ_ _ _ _ _ _ _ t m q=>q .normal t m)
  (λ_ ops draw P K G cf _ n _ t m q=>Bool.rec (motive:=λ_=>Option (TT β)) (opsH H ops.toList P K G cf n ops.toList t m λt m=>q .normal t m) (V0 H P K G cf n ops.toList t m λt m=>q .normal t m) draw)
  (λ_ _ ia ib P K G cf L n k t m q=>ia P K G cf L n k t m λe t m=>Ex.rec (motive:=λ_=>Option (TT β)) (ib P K G cf L n k t m q) (λid=>q (.exit id) t m) (q .ret t m) e)
  (λc _ _ ix iy P K G cf L n k t m q=>evF c G t λv=>Y.asBool v (ix P K G cf L n k t m q) (iy P K G cf L n k t m q))
  (λid _ ib P K G cf L n k t m q=>ib P K G cf L n k t m λe t m=>Ex.rec (motive:=λ_=>Option (TT β)) (q .normal t m) (λid'=>Bool.rec (motive:=λ_=>Option (TT β)) (q (.exit id') t m) (q .normal t m) (Nat.beq id' id)) (q .ret t m) e)
  (λc ib P K G cf L n k t m q=>L (λt m q=>ib P K G cf L n k t m q) c k t m q)
  (λ_ _ _ _ _ _ _ _ _ _ _ _ _ _ _ _=>none)
  (λid _ _ _ _ _ _ _ t m q=>q (.exit id) t m)
  (λ_ ic P K G cf L n k t m q=>ic P K G cf L n k t m q)
  (λ_ _ _ _ _ _ _ _ t m q=>q .normal t m)
  (λ_ _ _ _ _ _ _ _ _ _ _=>none)
  (λ_ _ _ _ _ _ _ t m q=>q .ret t m)
  (λ_ _ _ _ _ _ _ _ _ _ _=>none)
  c
def xu(body:AF->Mem->ExK (TT β)->Option (TT β))(k:Nat):AF->Mem->ExK (TT β)->Option (TT β):=loopF body k
theorem Ri{body:AF->Mem->ExK (TT β)->Option (TT β)}{b:AF->Mem->Option (Ex×AF×Mem)}(hb:∀t m,nj (body t m) (b t m)):∀(k:Nat) (t:AF) (m:Mem),nj (loopF body k t m) (BT b k t m)
 |0,t,m=>λq x ps hq hg=>by cases hq
 |k+1,t,m=>λq x ps hq hg=>by
  have hq:(body t m λe t' m'=>Ex.rec (motive:=λ_=>Option (TT β)) (loopF body k t' m' λe t m=>q (e,t,m)) (λid=>q (.exit id,t',m')) (q (.ret,t',m')) e)=some (x,ps):=hq;obtain⟨⟨e,t',m'⟩,h1,ps1,h2,g2⟩:=hb t m (λp=>Ex.rec (motive:=λ_=>Option (TT β)) (loopF body k p.2.1 p.2.2 λe t m=>q (e,t,m)) (λid=>q (.exit id,p.2.1,p.2.2)) (q (.ret,p.2.1,p.2.2)) p.1) x ps hq hg;simp only[BT,h1];cases e with
  |normal=>exact Ri hb k t' m' q x ps1 h2 g2
  |exit id=>exact⟨_,rfl,ps1,h2,g2⟩
  |ret=>exact⟨_,rfl,ps1,h2,g2⟩
theorem Rj(H:Hint){P:Program}{K:TypeId->Bool}{G:Nat}{cf:CF (TT β)}{df:DF}(hcf:∀f a m,Ly (cf f a m) (df f a m))(n k:Nat):∀(c:Code) (t:AF) (m:Mem),nj (codeT H c P K G cf (λbody _ k t m q=>loopF body k t m q) n k t m) (AI P K G df (AV P K G df n) n k c t m):=by
 intro c
 induction c with
 |skip=>intro t m;exact Xn.on λq=>rfl
 |label l=>intro t m;exact Xn.on λq=>rfl
 |exit id=>intro t m;exact Xn.on λq=>rfl
 |ret=>intro t m;exact Xn.on λq=>rfl
 |rangeFunc=>intro t m q b ps hq;cases hq
 |scope c ih=>intro t m;exact ih t m
 |goto=>intro t m q b ps hq;cases hq
 |refuse=>intro t m q b ps hq;cases hq
 |region id ops draw=>
  intro t m q b ps hq hg;cases draw with
  |false=>
   obtain⟨⟨t',m'⟩,h1,r⟩:=ops_fac H hcf n ops.toList ops.toList t m (λp=>q (.normal,p.1,p.2)) b ps hq hg;exact⟨(.normal,t',m'),by simp only[AI,cond_false,h1],r⟩
  |true=>
   obtain⟨⟨t',m'⟩,h1,r⟩:=aG H hcf n ops.toList t m (λp=>q (.normal,p.1,p.2)) b ps hq hg;exact⟨(.normal,t',m'),by simp only[AI,cond_true,h1],r⟩
 |seq a b iha ihb=>
  intro t m q x ps hq hg;obtain⟨⟨e,t',m'⟩,h1,ps1,h2,g2⟩:=iha t m (λp=>Ex.rec (motive:=λ_=>Option (TT β)) (codeT H b P K G cf (λbody _ k t m q=>loopF body k t m q) n k p.2.1 p.2.2 λe t m=>q (e,t,m)) (λid=>q (.exit id,p.2.1,p.2.2)) (q (.ret,p.2.1,p.2.2)) p.1) x ps hq hg;simp only[AI,h1];cases e with
  |normal=>exact ihb t' m' q x ps1 h2 g2
  |exit id=>exact⟨_,rfl,ps1,h2,g2⟩
  |ret=>exact⟨_,rfl,ps1,h2,g2⟩
 |cond c x y ihx ihy=>
  intro t m q b ps hq hg;have hq:(evF c G t λv=>Y.asBool v (codeT H x P K G cf (λbody _ k t m q=>loopF body k t m q) n k t m λe t m=>q (e,t,m)) (codeT H y P K G cf (λbody _ k t m q=>loopF body k t m q) n k t m λe t m=>q (e,t,m)))=some (b,ps):=hq;rw[B7]at hq;simp only[AI];cases he:ev G t c with
  |none=>rw[he]at hq;cases hq
  |some v=>
   rw[he]at hq;cases v<;>try (cases hq;done)
   rename_i w;cases w with
   |true=>exact ihx t m q b ps hq hg
   |false=>exact ihy t m q b ps hq hg
 |block id c ih=>
  intro t m q b ps hq hg;obtain⟨⟨e,t',m'⟩,h1,ps1,h2,g2⟩:=ih t m (λp=>Ex.rec (motive:=λ_=>Option (TT β)) (q (.normal,p.2.1,p.2.2)) (λid'=>Bool.rec (motive:=λ_=>Option (TT β)) (q (.exit id',p.2.1,p.2.2)) (q (.normal,p.2.1,p.2.2)) (Nat.beq id' id)) (q (.ret,p.2.1,p.2.2)) p.1) b ps hq hg;simp only[AI,h1];cases e with
  |normal=>exact⟨_,rfl,ps1,h2,g2⟩
  |ret=>exact⟨_,rfl,ps1,h2,g2⟩
  |exit id'=>
   have h2:Bool.rec (motive:=λ_=>Option (TT β)) (q (.exit id',t',m')) (q (.normal,t',m')) (Nat.beq id' id)=some (b,ps1):=h2;rw[Tm]at h2;by_cases h:id'=id
   ·rw[decide_eq_true h]at h2;exact⟨(.normal,t',m'),by simp only[if_pos h],ps1,h2,g2⟩
   ·rw[decide_eq_false h]at h2;exact⟨(.exit id',t',m'),by simp only[if_neg h],ps1,h2,g2⟩
 |loop c ih=>
  intro t m q b ps hq hg;exact Ri (λt m=>ih t m) k t m q b ps hq hg
def runT(H:Hint)(P:Program)(K:TypeId->Bool)(G:Nat)(k:Nat)(cf:CF (TT β))(fn:Func)(c:Code)(args:List Value)(m:Mem)(q:Value->Mem->Option (TT β)):Option (TT β):=
 aH args 0 λt=>codeT H c P K G cf (λbody _ k t m q=>loopF body k t m q) (max args.length fn.ntmps) k t m λe t' m'=>Ex.rec (motive:=λ_=>Option (TT β)) (NX fn.results.toList P t' m' λvs=>q (F6 vs) m') (λ_=>none) (NX fn.results.toList P t' m' λvs=>q (F6 vs) m') e
def callT(H:Hint)(P:Program)(K:TypeId->Bool)(G:Nat)(k:Nat):CF (TT β):=
 Nat.rec (motive:=λ_=>CF (TT β)) (λ_ _ _ _=>none) (λk ih f args m q=>Option.rec (motive:=λ_=>Option (TT β)) (Option.rec (motive:=λ_=>Option (TT β)) none (λfn=>Option.rec (motive:=λ_=>Option (TT β)) none (λc=>runT H P K G k ih fn c args m q) fn.body) P.funcs[f]?)
  (λv=>DL (H.says f args m v) (q v (H.eff f m))) (H.call f)) k
theorem call_fac(H:Hint)(P:Program)(K:TypeId->Bool)(G:Nat)(o:C1)(h1:∀f v args m,H.call f=some v->H.says f args m v->o f args m=some (v,H.eff f m))(h2:∀f,H.call f=none->∀a m,o f a m=none):∀(k:Nat) (f:FuncId) (args:List Value) (m:Mem),Ly (callT H P K G k f args m:(Value->Mem->Option (TT β))->Option (TT β)) (CG P K G o k f args m)
 |0,f,args,m=>λq b ps hq=>by cases hq
 |k+1,f,args,m=>λq b ps hq hg=>by
  have ih:∀f args m,Ly (callT H P K G k f args m:(Value->Mem->Option (TT β))->Option (TT β)) (CG P K G o k f args m):=call_fac H P K G o h1 h2 k
  have hq:Option.rec (motive:=λ_=>Option (TT β)) (Option.rec (motive:=λ_=>Option (TT β)) none (λfn=>Option.rec (motive:=λ_=>Option (TT β)) none (λc=>runT H P K G k (callT H P K G k) fn c args m λv m=>q (v,m)) fn.body) P.funcs[f]?)
   (λv=>DL (H.says f args m v) (q (v,H.eff f m))) (H.call f)=some (b,ps):=hq
  simp only[CG];cases hc:H.call f with
  |some v=>
   rw[hc]at hq;obtain⟨p1,ps1,p2,g2⟩:=C4 hq hg;rw[h1 f v args m hc p1];exact⟨_,rfl,ps1,p2,g2⟩
  |none=>
  rw[hc]at hq;rw[h2 f hc];simp only[NY];cases hf:P.funcs[f]? with
  |none=>rw[hf]at hq;cases hq
  |some fn=>
   rw[hf]at hq;simp only at hq ⊢;cases hb:fn.body with
   |none=>rw[hb]at hq;cases hq
   |some c=>
    rw[hb]at hq;simp only[runT,NZ,Ip]at hq ⊢;obtain⟨⟨e,t',m'⟩,h1,ps1,h2,g2⟩:=Rj H ih (max args.length fn.ntmps) k c (G5 0 args) m (λp=>Ex.rec (motive:=λ_=>Option (TT β)) (ob (DK P p.2.1 p.2.2 fn.results.toList) λvs=>q (F6 vs,p.2.2)) (λ_=>none) (ob (DK P p.2.1 p.2.2 fn.results.toList) λvs=>q (F6 vs,p.2.2)) p.1) b ps hq hg;rw[h1];cases e with
    |exit id=>cases h2
    |normal=>
     have h2:(ob (DK P t' m' fn.results.toList) λvs=>q (F6 vs,m'))=some (b,ps1):=h2;simp only;cases hr:DK P t' m' fn.results.toList with
     |none=>rw[hr]at h2;cases h2
     |some vs=>rw[hr]at h2;exact⟨_,rfl,ps1,h2,g2⟩
    |ret=>
     have h2:(ob (DK P t' m' fn.results.toList) λvs=>q (F6 vs,m'))=some (b,ps1):=h2;simp only;cases hr:DK P t' m' fn.results.toList with
     |none=>rw[hr]at h2;cases h2
     |some vs=>rw[hr]at h2;exact⟨_,rfl,ps1,h2,g2⟩
theorem callO_H{H:Hint}{P:Program}{K:TypeId->Bool}{G:Nat}{o:C1}(h1:∀f v args m,H.call f=some v->H.says f args m v->o f args m=some (v,H.eff f m))(h2:∀f,H.call f=none->∀a m,o f a m=none)
  {k:Nat} {f:FuncId} {args:List Value} {m:Mem} {g:Value->Mem->β} {b:β} {qs:List Prop}
  (hr:(callT H P K G k f args m λv m=>some (g v m,[],[])).map (λx=>(x.1,x.2.2))=some (b,qs))
  (hp:((callT H P K G k f args m λv m=>some (g v m,[],[])).map λx=>x.2.1.map Prod.fst)=((callT H P K G k f args m λv m=>some (g v m,[],[])).map λx=>x.2.1.map Prod.snd)) (hq:∀p∈qs,p):
  ∃v m',CG P K G o k f args m=some (v,m')/\g v m'=b:=by
 cases hx:callT H P K G k f args m λv m=>some (g v m,[],[])with
 |none=>rw[hx]at hr;cases hr
 |some r=>
  obtain⟨b',ps,qs'⟩:=r;rw[hx]at hr hp;have hr:some (b',qs')=some (b,qs):=hr;simp only[Option.some.injEq,Prod.mk.injEq]at hr;obtain⟨rfl,rfl⟩:=hr;have hp:some (ps.map Prod.fst)=some (ps.map Prod.snd):=hp;obtain⟨⟨v,m'⟩,q1,ps',q2,_⟩:=call_fac H P K G o h1 h2 k f args m (λp=>some (g p.1 p.2,[],[])) b' (ps,qs') hx (good_of (Option.some.inj hp) hq);simp only[Option.some.injEq,Prod.mk.injEq]at q2;exact⟨v,m',q1,q2.1⟩
theorem codeO_H{H:Hint}{P:Program}{K:TypeId->Bool}{G:Nat}{o:C1}(h1:∀f v args m,H.call f=some v->H.says f args m v->o f args m=some (v,H.eff f m))(h2:∀f,H.call f=none->∀a m,o f a m=none)
  {j n k:Nat} {c:Code} {t:AF} {m:Mem} {g:Ex->AF->Mem->β} {b:β} {qs:List Prop}
  (hr:(codeT H c P K G (callT H P K G j) (λbody _ k t m q=>loopF body k t m q) n k t m λe t m=>some (g e t m,[],[])).map (λx=>(x.1,x.2.2))=some (b,qs))
  (hp:((codeT H c P K G (callT H P K G j) (λbody _ k t m q=>loopF body k t m q) n k t m λe t m=>some (g e t m,[],[])).map λx=>x.2.1.map Prod.fst)=((codeT H c P K G (callT H P K G j) (λbody _ k t m q=>loopF body k t m q) n k t m λe t m=>some (g e t m,[],[])).map λx=>x.2.1.map Prod.snd)) (hq:∀p∈qs,p):
  ∃e t' m',AI P K G (CG P K G o j) (AV P K G (CG P K G o j) n) n k c t m=some (e,t',m')/\g e t' m'=b:=by
 cases hx:codeT H c P K G (callT H P K G j) (λbody _ k t m q=>loopF body k t m q) n k t m λe t m=>some (g e t m,[],[])with
 |none=>rw[hx]at hr;cases hr
 |some r=>
  obtain⟨b',ps,qs'⟩:=r;rw[hx]at hr hp;have hr:some (b',qs')=some (b,qs):=hr;simp only[Option.some.injEq,Prod.mk.injEq]at hr;obtain⟨rfl,rfl⟩:=hr;have hp:some (ps.map Prod.fst)=some (ps.map Prod.snd):=hp;obtain⟨⟨e,t',m'⟩,q1,ps',q2,_⟩:=Rj H (call_fac H P K G o h1 h2 j) n k c t m (λp=>some (g p.1 p.2.1 p.2.2,[],[])) b' (ps,qs') hx (good_of (Option.some.inj hp) hq);simp only[Option.some.injEq,Prod.mk.injEq]at q2;exact⟨e,t',m',q1,q2.1⟩
end
end Go.DI.H
namespace Go.Cmp
open Go Go.DI
inductive RV where
 |none
 |num (n:Int)
 |ctx
 |pkt
def CU(r:Int->RV)(i:Int)(v:RV):Int->RV:=λj=>if j=i then v else r j
theorem C3(r:Int->RV)(i:Int)(v:RV):CU r i v i=v:=if_pos rfl
theorem FT{r:Int->RV}{i j:Int}{v:RV}(h:j≠i):CU r i v j=r j:=if_neg h
def DZ(a b:Int):Int:=((a.toNat &&& b.toNat:Nat):Int)
def Eh(l:List Int):Int:=l.foldr (λb n=>b+256*n) 0
def Ho(l:List Int):Int:=l.foldl (λn b=>256*n+b) 0
def Pa:Nat->Int->List Int
 |0,_=> []
 |z+1,a=>a % 256::Pa z (a / 256)
def Fi(z:Int)(a:Int):Int:=Ho (Pa z.toNat a)
def cut(l:List Int)(at_ z:Nat):List Int:=(l.drop at_).take z
def DA(op a b:Int):Bool:=if op=3 then decide (b<=a)else if op=5 then decide (a≠b)else if op=10 then decide (a<b)else decide (b<a)
def Qj(z:Int):Prop:=z=1\/z=2\/z=4\/z=8
def mO(op:Int):Prop:=op=3\/op=5\/op=10\/op=2
def CL(d:Int):Prop:=0<=d/\d<=9
def rI(d:Int):Prop:=(d=2\/d=3)/\True
def rA(d:Int):Prop:=d=2/\True
def rJ(d:Int):Prop:=(d=2\/d=8)/\True
def rP(a b d s:Int):Prop:=(d=a/\s=b)/\True
def rM(d s:Int):Prop:=(d=6/\s=1\/d=2/\s=8)/\True
def EN(n:Int):Prop:=0<=n/\n<2147483648
def BJ(x:B9)(o:Int):B9:={x with off:=o}
inductive E6(c:List B9)(pk:List Int)(port:Int):Nat->(Int->RV)->Nat->(Int->RV)->Prop
 |movI {p:Nat} {r:Int->RV} {d n:Int}:c[p]?=some (DU 11 d n)->rI d->EN n->E6 c pk port p r (p+1) (CU r d (.num n))
 |andI {p:Nat} {r:Int->RV} {d n a:Int}:c[p]?=some (DU 5 d n)->rA d->EN n->r d= .num a->E6 c pk port p r (p+1) (CU r d (.num (DZ a n)))
 |movR {p:Nat} {r:Int->RV} {d s:Int}:c[p]?=some (Bj 11 d s)->CL d->rM d s->r s≠ .none->E6 c pk port p r (p+1) (CU r d (r s))
 |andR {p:Nat} {r:Int->RV} {d s a b:Int}:c[p]?=some (Bj 5 d s)->CL d->rP 2 3 d s->r d= .num a->r s= .num b->E6 c pk port p r (p+1) (CU r d (.num (DZ a b)))
 |low {p:Nat} {r:Int->RV} {n:Int}:c[p]?=some (HC n)->E6 c pk port p r (p+1) (CU r 0 (.num (n % 4294967296)))
 |const {p:Nat} {r:Int->RV} {l h:Int}:c[p]?=some ⟨24,3,0,0,l⟩->c[p+1]?=some ⟨0,0,0,0,h⟩->E6 c pk port p r (p+2) (CU r 3 (.num (l % 4294967296+4294967296*(h % 4294967296))))
 |ldLen {p:Nat} {r:Int->RV} {d s:Int}:c[p]?=some (BL 4 d s 0)->CL d->rP 8 6 d s->r s= .ctx->E6 c pk port p r (p+1) (CU r d (.num pk.length))
 |ldPort {p:Nat} {r:Int->RV} {d s:Int}:c[p]?=some (BL 4 d s 4)->CL d->rP 2 6 d s->r s= .ctx->E6 c pk port p r (p+1) (CU r d (.num port))
 |ldPkt {p:Nat} {r:Int->RV} {d s:Int}:c[p]?=some (BL 8 d s 8)->CL d->rP 7 1 d s->r s= .ctx->E6 c pk port p r (p+1) (CU r d .pkt)
 |ld {p:Nat} {r:Int->RV} {z d s:Int} {o:Nat}:c[p]?=some (BL z d s o)->Qj z->CL d->rP 2 7 d s->r s= .pkt->o<=1000->o+z.toNat<=pk.length->E6 c pk port p r (p+1) (CU r d (.num (Eh (cut pk o z.toNat))))
 |swap {p:Nat} {r:Int->RV} {z a:Int}:c[p]?=some (Ci z)->Qj z->1<z->r 2= .num a->0<=a->a<256 ^ z.toNat->E6 c pk port p r (p+1) (CU r 2 (.num (Fi z a)))
 |jif {p q:Nat} {r:Int->RV} {op d n a o:Int}:c[p]?=some (BJ (DO op d n) o)->mO op->rJ d->EN n->r d= .num a->(q:Int)=(if DA op a n=true then(p:Int)+1+o else(p:Int)+1)->p<q->E6 c pk port p r q r
 |jifR {p q:Nat} {r:Int->RV} {op a b o:Int}:c[p]?=some (BJ (Ey op) o)->op=10\/op=2->r 2= .num a->r 3= .num b->(q:Int)=(if DA op a b=true then(p:Int)+1+o else(p:Int)+1)->p<q->E6 c pk port p r q r
 |goto {p q:Nat} {r:Int->RV} {o:Int}:c[p]?=some (BJ CC o)->(q:Int)=(p:Int)+1+o->p<q->E6 c pk port p r q r
inductive JX(c:List B9)(pk:List Int)(port:Int):Nat->Nat->(Int->RV)->Nat->(Int->RV)->Prop
 |nil {p:Nat} {r:Int->RV}:JX c pk port 0 p r p r
 |cons {n p p' q:Nat} {r r' s:Int->RV}:E6 c pk port p r p' r'->JX c pk port n p' r' q s->JX c pk port (n+1) p r q s
variable{c:List B9}{pk:List Int}{port:Int}
theorem E6.lt{p q:Nat}{r s:Int->RV}(h:E6 c pk port p r q s):p<q:=by
 cases h<;>omega
theorem JX.le{n p q:Nat}{r s:Int->RV}(h:JX c pk port n p r q s):p+n<=q:=by
 induction h with
 |nil=>omega
 |cons h _ ih=>have:=h.lt;omega
theorem JX.trans{n m p q t:Nat}{r s u:Int->RV}(h:JX c pk port n p r q s)(k:JX c pk port m q s t u):JX c pk port (m+n) p r t u:=by
 induction h with
 |nil=>exact k
 |cons h _ ih=>exact .cons h (ih k)
def AL(l:List BB):List Nat:=(l.filter B4).map (·.here)
theorem BO(a b:List BB):AL (a++b)=AL a++AL b:=by simp[AL]
theorem DE(x:B9)(to:Nat)(l:List BB):AL (ins x to::l)=AL l:=by simp[AL,B4,ins]
theorem Da(n:Nat)(l:List BB):AL (lab (n+1)::l)=(n+1)::AL l:=by simp[AL,B4,lab]
theorem Kn:∀(l:List BB) (n:Nat) (f:Nat->Nat) (j:Nat),j∉AL l->HX l n f j=f j
 | [],_,_,_,_=>rfl
 |r::l,n,f,j,h=>by
  simp only[HX];by_cases hr:B4 r=true
  ·rw[if_pos hr];have h1:j∉AL l:=λhj=>h (by simp only[AL,List.filter_cons,hr,if_true,List.map_cons];exact List.mem_cons_of_mem _ hj);have h2:j≠r.here:=λe=>h (by simp only[AL,List.filter_cons,hr,if_true,List.map_cons];rw[e];exact List.mem_cons_self ..);rw[Kn l n _ j h1];exact if_neg h2
  ·rw[if_neg hr];have h1:j∉AL l:=λhj=>h (by simp only[AL,List.filter_cons,hr,if_false];exact hj);exact Kn l (n+1) f j h1
theorem Pb:∀(a b:List BB) (n:Nat) (f:Nat->Nat) (j:Nat),j+1∉AL b->HX (a++lab (j+1)::b) n f (j+1)=n+B3 a
 | [],b,n,f,j,h=>by
  have hr:B4 (lab (j+1))=true:=by simp[B4,lab]
  simp only[List.nil_append,HX];rw[if_pos hr,Kn b n _ (j+1) h];simp[lab,B3]
 |r::a,b,n,f,j,h=>by
  simp only[List.cons_append,HX,B3];by_cases hr:B4 r=true
  ·rw[if_pos hr,if_pos hr];exact Pb a b n _ j h
  ·rw[if_neg hr,if_neg hr,Pb a b (n+1) f j h];omega
theorem Yy(a b:List BB)(j:Nat)(h:j+1∉AL b):Jy (a++lab (j+1)::b) (j+1)=B3 a:=by
 unfold Jy;rw[Pb a b 0 _ j h];omega
theorem EO(pre suf:List BB)(x:B9)(to:Nat):(Bf (pre++ins x to::suf))[B3 pre]?=some (if 0<to then TM (Jy (pre++ins x to::suf) to) (B3 pre) x else x):=by
 have hr:¬B4 (ins x to)=true:=by simp[B4,ins]
 obtain⟨f,hf⟩:∃f:Nat->Option Nat,(λj=>some (Jy (pre++ins x to::suf) j))=f:=⟨_,rfl⟩
 have e:Bf (pre++ins x to::suf)=Cj f pre 0++Cj f (ins x to::suf) (0+B3 pre):=by
  rw[←Dz,←hf];rfl
 rw[e,List.getElem?_append_right (by rw[CE];exact Nat.le_refl _),CE,Nat.sub_self]
 simp only[Cj]
 rw[if_neg hr,List.getElem?_cons_zero,Nat.zero_add,←hf]
 by_cases ht:0<to
 ·show some (match(if 0<to then some (Jy (pre++ins x to::suf) to)else Option.none)with|some q=>TM q (B3 pre) x|Option.none=>x)=_;rw[if_pos ht,if_pos ht]
 ·show some (match(if 0<to then some (Jy (pre++ins x to::suf) to)else Option.none)with|some q=>TM q (B3 pre) x|Option.none=>x)=_;rw[if_neg ht,if_neg ht]
def Rn(rows:List BB)(pk:List Int)(port:Int)(suf:List BB)(r:Int->RV)(suf':List BB)(r':Int->RV):Prop:=
 ∀pre,rows=pre++suf->∃pre' n,rows=pre'++suf'/\JX (Bf rows) pk port n (B3 pre) r (B3 pre') r'
section
variable{rows suf suf' suf'':List BB}{r r' r'':Int->RV}
theorem Rn.refl:Rn rows pk port suf r suf r:=λpre h=>⟨pre,0,h, .nil⟩
theorem Rn.trans(h:Rn rows pk port suf r suf' r')(k:Rn rows pk port suf' r' suf'' r''):Rn rows pk port suf r suf'' r'':=λpre hp=>by
 obtain⟨p1,n1,e1,h1⟩:=h pre hp
 obtain⟨p2,n2,e2,h2⟩:=k p1 e1
 exact⟨p2,_,e2,h1.trans h2⟩
theorem Rn.lab(l:Nat):Rn rows pk port (lab (l+1)::suf) r suf r:=λpre hp=>by
 refine⟨pre++ [Go.Cmp.lab (l+1)],0,by rw[hp];simp,?_⟩
 have:B3 (pre++ [Go.Cmp.lab (l+1)])=B3 pre:=by rw[Bk];simp[B3,B4,Go.Cmp.lab]
 rw[this];exact .nil
theorem Rn.one{x:B9}(h:∀p,(Bf rows)[p]?=some x->E6 (Bf rows) pk port p r (p+1) r'):Rn rows pk port (ins x 0::suf) r suf r':=λpre hp=>by
 refine⟨pre++ [ins x 0],1,by rw[hp];simp,?_⟩
 have e:B3 (pre++ [ins x 0])=B3 pre+1:=by rw[Bk];simp[B3,B4,ins]
 have hx:=EO pre suf x 0
 rw[if_neg (Nat.lt_irrefl 0),←hp]at hx
 rw[e]
 exact .cons (h _ hx) .nil
theorem Pc{pre mid:List BB}{x:B9}{l:Nat} (hp:rows=pre++(ins x (l+1)::(mid++lab (l+1)::suf'))) (hl:l+1∉AL suf') (hb:B3 rows<=20000):
  ∃o:Int,(Bf rows)[B3 pre]?=some (BJ x o)/\((B3 (pre++ins x (l+1)::mid):Nat):Int)=(B3 pre:Int)+1+o/\B3 pre<B3 (pre++ins x (l+1)::mid)/\rows=(pre++ins x (l+1)::mid)++lab (l+1)::suf':=by
 have e0:rows=(pre++ins x (l+1)::mid)++lab (l+1)::suf':=by rw[hp];simp
 have hx:=EO pre (mid++lab (l+1)::suf') x (l+1)
 rw[if_pos (Nat.succ_pos l),←hp]at hx
 have ha:Jy rows (l+1)=B3 (pre++ins x (l+1)::mid):=by
  rw[e0];exact Yy _ _ _ hl
 have hc:B3 (pre++ins x (l+1)::mid)=B3 pre+(B3 mid+1):=by rw[Bk];simp[B3,B4,ins]
 have hle:B3 (pre++ins x (l+1)::mid)<=B3 rows:=by
  rw[e0,Bk (pre++ins x (l+1)::mid)];omega
 refine⟨_,hx,?_,by omega,e0⟩
 rw[ha,hc]
 rw[hc]at hle
 have hw:Gy (((B3 pre+(B3 mid+1):Nat):Int) - (B3 pre:Nat) - 1)=((B3 pre+(B3 mid+1):Nat):Int) - (B3 pre:Nat) - 1:=by
  exact IntWalk.i16_in _ (by omega)
 show _=(B3 pre:Int)+1+Gy _
 rw[hw];omega
end
end Go.Cmp
namespace Go.Proofs.YtgjflcgmieiafaaGreatDoor
open Go Go.DI Go.DI.Kit Go.Proofs Go.Cmp
noncomputable section
def sM:List Value:= [.int .u8 0, .int .u8 0, .int .u8 0, .int .u8 0, .int .u8 0, .int .u8 0, .int .u8 0, .int .u8 0, .int .u8 0, .int .u8 0, .int .i64 0, .int .u64 0, .int .i64 0]
def bD:List Value:=Fo sM 64
def OU(k n:Int):List Value:= [.int .u8 k, .int .i64 0, .int .u64 n, .int .i64 0]
def AK(k0 n0 k1 n1 k2 n2 k3 n3 k4 n4 k5 n5 k6 n6 k7 n7 k8 n8 k9 n9:Int):List Value:=
 OU k0 n0++(OU k1 n1++(OU k2 n2++(OU k3 n3++(OU k4 n4++(OU k5 n5++(OU k6 n6++(OU k7 n7++(OU k8 n8++(OU k9 n9++ [.int .u8 4, .int .i64 0, .int .u64 0, .int .i64 512])))))))))
def sP(maps code tabs pkt tm ch:Value)(port:Int)(regs:List Value)(at_ steps:Int)(over:Bool)(trap:Int):List Value:=
 [maps,code,tabs,pkt, .int .u32 port,tm,ch]++(regs++(bD++ [.int .i64 at_, .int .i64 steps, .bool over, .int .i64 trap]))
def kv(i:Nat):Value:= .slice (some ⟨i,0,none⟩) 0 0
def iQ(cs pv:Value)(port:Int)(regs:List Value)(at_ steps:Int)(over:Bool)(trap:Int):BI:=
 .cells true (sP (kv 5) cs (kv 4) pv (kv 6) (kv 7) port regs at_ steps over trap)
def AP(n:Nat):Value:= .slice (some ⟨2,0,some 5⟩) n n
def GR:BI:= .cells true []
def iR(L P:List Value)(cs pv:Value)(port:Int)(regs:List Value)(at_ steps:Int)(over:Bool)(trap:Int):List BI:= [iQ cs pv port regs at_ steps over trap, .cells true L, .cells true P,GR,GR,GR,GR]
def mV(L P:List Value)(cs pv:Value)(port:Int)(regs:List Value)(at_ steps:Int)(over:Bool)(trap:Int):Mem:=mS gl (iR L P cs pv port regs at_ steps over trap)
abbrev Seen:=Value×BI×BI×BI×BI×BI×BI×BI×BI
def SO(v:Value)(m:Mem):Seen:=(v,m.get 0,m.get 1,m.get 2,m.get 3,m.get 4,m.get 5,m.get 6,m.get 7)
def K5(args:List Value)(b:Bool):Prop:=match args with
 | [.int .i64 op, .bool true, .int .u64 x, .int .u64 y]=>(op=3\/op=5\/op=10\/op=2)/\b=DA op x y
 |_=>False
def AN(pk:List Int):List Value:=pk.map λb=> .int .u8 b
structure JM(x:BI)(n:Nat)(off z:Int)(pk:List Int):Prop where
 blk:∃own,x= .cells own (AN pk)
 rng:∀b∈pk,0<=b/\b<256
 len:n=pk.length
 sz:Qj z
 off0:0<=off
 fits:off+z<=pk.length
 small:pk.length<=1000000
def SP(args:List Value)(x:BI)(N:Int):Prop:=match args with
 | [.slice (some ⟨_,0,_⟩) n _, .int .i64 off, .int .i64 z]=>∃pk,JM x n off z pk/\N=Eh (cut pk off.toNat z.toNat)
 |_=>False
def iS(args:List Value):Option Nat:=match args with
 | .slice (some ⟨b,0,_⟩) _ _::_=>some b
 |_=>none
def DT(f:FuncId)(args:List Value)(x:BI)(v:Value):Prop:=
 (f=87/\∃b,v= .tuple ⟨[.bool b, .int .i64 0]⟩/\K5 args b)\/(f=80/\iS args=some 3/\∃N,v= .tuple ⟨[.int .u64 N, .int .i64 0]⟩/\SP args x N)
def hV(x:List Value)(imm2:Int)(b:Bool)(N:Int):H.Hint where
 ix t:=Nat.beq t 30
 ld k t _:=cond (Nat.beq k 2) (cond (Nat.beq t 110) (some (.agg ⟨x⟩)) (cond (Nat.beq t 21) (some (.int .i32 imm2)) none)) none
 cmp _ _:=none
 ap _:=none
 call f:=cond (Nat.beq f 87) (some (.tuple ⟨[.bool b, .int .i64 0]⟩)) (cond (Nat.beq f 80) (some (.tuple ⟨[.int .u64 N, .int .i64 0]⟩)) none)
 spec:=DT
 blk:=3
def wX(f:FuncId)(args:List Value)(h:H.Hint)(M:Mem):Option (H.TT Seen):=H.callT h Tryz.prog kp 1 20 f args M λv m=>some (SO v m,[],[])
def BC(x:List Value)(imm2:Int)(b:Bool)(N:Int)(M:Mem):Option (H.TT Seen):=wX 28 [.pointer (some ⟨1,0,none⟩)] (hV x imm2 b N) M
def DD(r:Option (H.TT Seen)):Option (Seen×List Prop):=r.map λx=>(x.1,x.2.2)
def BE(r:Option (H.TT Seen)):Prop:=(r.map λx=>x.2.1.map Prod.fst)=(r.map λx=>x.2.1.map Prod.snd)
def seenV(v:Value)(L P:List Value)(cs pv:Value)(port:Int)(regs:List Value)(at_ steps:Int)(over:Bool)(trap:Int):Seen:=
 (v, .cells false gl,iQ cs pv port regs at_ steps over trap, .cells true L, .cells true P,GR,GR,GR,GR)
def Cp(n:Int):Int:=IntKind.wrap .i64 (Int.add n 1)
def GS(at_:Int)(n:Nat):Prop:=0<=at_/\at_< (n:Int)
def GY(L:List Value)(at_:Int)(x:List Value):Prop:=H.ldOk (.cells true L) (Nat.add 0 (Nat.mul at_.toNat 5)) true 5 (.agg ⟨x⟩)
def Ez(n:Int):Int:=IntKind.wrap .u64 (IntKind.wrap .i64 n)
def Sh(o:Int):Int:=IntKind.wrap .i64 (Int.add 0 (IntKind.wrap .i64 (Gy o)))
def MF(x y:Int):Int:=IntKind.wrap .u64 (BitVec.ofInt (IntKind.bits .u64) x &&& BitVec.ofInt (IntKind.bits .u64) y).toNat
def iu(x y:Int):Int:=IntKind.wrap .u64 (BitVec.ofInt (IntKind.bits .u64) x|||BitVec.ofInt (IntKind.bits .u64) y).toNat
def L5(x:Int)(s:Int):Int:=x.fdiv (2 ^ (min s.toNat (IntKind.bits .u64)))
def Ny(x:Int)(s:Int):Int:=IntKind.wrap .u64 (x*2 ^ (min s.toNat (IntKind.bits .u64)))
def Y3(a m s:Int):Int:=iu (MF (L5 a s) m) (Ny (MF a m) s)
def O1(a:Int):Int:=(λb=>iu (L5 b 32) (Ny b 32)) (Y3 (Y3 a 71777214294589695 8) 281470681808895 16)
variable{α:Type}
def PT(b:Bool)(M:Mem)(q:Value->Mem->Option α):Option α:=Bool.rec (motive:=λ_=>Option α) (q (.tuple ⟨[.bool false, .int .i64 0]⟩) M) (q (.tuple ⟨[.bool true, .int .i64 0]⟩) M) b
theorem ig(x y:Int)(M:Mem)(q:Value->Mem->Option α):Y.callK Tryz.prog kp 1 20 87 [.int .i64 3, .bool true, .int .u64 x, .int .u64 y] M q=PT (not (Y.ltF x y)) M q:=by kernel_rfl
theorem ij(x y:Int)(M:Mem)(q:Value->Mem->Option α):Y.callK Tryz.prog kp 1 20 87 [.int .i64 5, .bool true, .int .u64 x, .int .u64 y] M q=PT (not (Y.eqF x y)) M q:=by kernel_rfl
theorem bY(x y:Int)(M:Mem)(q:Value->Mem->Option α):Y.callK Tryz.prog kp 1 20 87 [.int .i64 10, .bool true, .int .u64 x, .int .u64 y] M q=PT (Y.ltF x y) M q:=by kernel_rfl
theorem iq(x y:Int)(M:Mem)(q:Value->Mem->Option α):Y.callK Tryz.prog kp 1 20 87 [.int .i64 2, .bool true, .int .u64 x, .int .u64 y] M q=PT (Y.ltF y x) M q:=by kernel_rfl
def hW:H.Hint where
 ix _:=false
 ld _ _ _:=none
 cmp op t:=cond (Nat.beq t 2) (BinOp.rec (motive:=λ_=>Option Bool) none none none none none none none none none none none none none (some false) none (some false) none op) none
 ap _:=none
 call _:=none
 spec _ _ _ _:=False
 blk:=0
theorem bZ(b:Nat)(sp:Option Nat)(n c:Nat)(off:Int)(M:Mem)(z:Int)(hz:z=1\/z=2\/z=4\/z=8):
  (H.callT hW Tryz.prog kp 1 20 101 [.slice (some ⟨b,0,sp⟩) n c, .int .i64 off, .int .i64 z] M λv m=>some ((v,m),[],[]))=
   some ((.int .i64 0,M),[],[B6 Tryz.prog kp .lss 2 (.int .i64 off) (.int .i64 0)=some (.bool false),B6 Tryz.prog kp .gtr 2 (.int .i64 off) (.int .i64 (IntKind.wrap .i64 (Int.sub (Int.ofNat n) z)))=some (.bool false)]):=by
 rcases hz with rfl|rfl|rfl|rfl<;>kernel_rfl
def hG(g:Nat->Int):H.Hint where
 ix t:=Nat.beq t 23
 ld _ t off:=cond (Nat.beq t 5) (some (.int .u8 (g off))) none
 cmp _ _:=none
 ap _:=none
 call f:=cond (Nat.beq f 101) (some (.int .i64 0)) none
 spec f args _ v:=f=101/\v= .int .i64 0/\∃b sp n c off z,args= [.slice (some ⟨b,0,sp⟩) n c, .int .i64 off, .int .i64 z]/\Qj z/\0<=off/\off+z<=n/\n<=1000000
 blk:=0
def u4(off:Int)(j:Nat):Int:=IntKind.wrap .i64 (Int.add off (Int.ofNat j))
def sf(off:Int)(j:Nat):Nat:=Nat.add 0 (Nat.mul (u4 off j).toNat 1)
def nG(g:Nat->Int)(off:Int)(a:Int)(j:Nat):Int:=iu (Ny a 8) (IntKind.wrap .u64 (g (sf off j)))
def pG(M:Mem)(b n:Nat)(g:Nat->Int)(off:Int)(j:Nat):List Prop:= [0<=u4 off j/\u4 off j< (n:Int),H.ldOk (M.get b) (sf off j) false 1 (.int .u8 (g (sf off j)))]
def sg(M:Mem)(b:Nat)(sp:Option Nat)(n c:Nat)(g:Nat->Int)(off z:Int):Prop:=(hG g).spec 101 [.slice (some ⟨b,0,sp⟩) n c, .int .i64 off, .int .i64 z] (M.get 0) (.int .i64 0)
def S6(g:Nat->Int)(b:Nat)(sp:Option Nat)(n c:Nat)(off:Int)(z:Int)(M:Mem):Option (H.TT (Value×Mem)):=H.callT (hG g) Tryz.prog kp 1 20 80 [.slice (some ⟨b,0,sp⟩) n c, .int .i64 off, .int .i64 z] M λv m=>some ((v,m),[],[])
theorem ow(g:Nat->Int)(b:Nat)(sp:Option Nat)(n c:Nat)(off:Int)(M:Mem):
  S6 g b sp n c off 1 M=some ((.tuple ⟨[.int .u64 (nG g off 0 0), .int .i64 0]⟩,M),[],sg M b sp n c g off 1::pG M b n g off 0):=by kernel_rfl
theorem ox(g:Nat->Int)(b:Nat)(sp:Option Nat)(n c:Nat)(off:Int)(M:Mem):
  S6 g b sp n c off 2 M=some ((.tuple ⟨[.int .u64 (nG g off (nG g off 0 1) 0), .int .i64 0]⟩,M),[],sg M b sp n c g off 2::(pG M b n g off 1++pG M b n g off 0)):=by kernel_rfl
theorem oy(g:Nat->Int)(b:Nat)(sp:Option Nat)(n c:Nat)(off:Int)(M:Mem):
  S6 g b sp n c off 4 M=some ((.tuple ⟨[.int .u64 (nG g off (nG g off (nG g off (nG g off 0 3) 2) 1) 0), .int .i64 0]⟩,M),[],sg M b sp n c g off 4::(pG M b n g off 3++(pG M b n g off 2++(pG M b n g off 1++pG M b n g off 0)))):=by kernel_rfl
theorem oz(g:Nat->Int)(b:Nat)(sp:Option Nat)(n c:Nat)(off:Int)(M:Mem):
  S6 g b sp n c off 8 M=some ((.tuple ⟨[.int .u64 (nG g off (nG g off (nG g off (nG g off (nG g off (nG g off (nG g off (nG g off 0 7) 6) 5) 4) 3) 2) 1) 0), .int .i64 0]⟩,M),[],sg M b sp n c g off 8::(pG M b n g off 7++(pG M b n g off 6++(pG M b n g off 5++(pG M b n g off 4++(pG M b n g off 3++(pG M b n g off 2++(pG M b n g off 1++pG M b n g off 0)))))))):=by kernel_rfl
end
end Go.Proofs.YtgjflcgmieiafaaGreatDoor
namespace Go.Cmp
open Go Go.DI
variable{pk:List Int}{port:Int}{rows suf suf':List BB}{r:Int->RV}
def Cq(r:Int->RV):Prop:=r 6= .ctx/\r 7= .pkt
theorem Cq.set{d:Int}{v:RV}(h:Cq r)(h6:d≠6)(h7:d≠7):Cq (CU r d v):=⟨by rw[FT (Ne.symm h6)];exact h.1,by rw[FT (Ne.symm h7)];exact h.2⟩
theorem Ut{d n:Int}(hd:rI d)(hn:EN n):Rn rows pk port (ins (DU 11 d n) 0::suf) r suf (CU r d (.num n)):=Rn.one λ_ h=> .movI h hd hn
theorem Uu{d n a:Int}(hd:rA d)(hn:EN n)(ha:r d= .num a):Rn rows pk port (ins (DU 5 d n) 0::suf) r suf (CU r d (.num (DZ a n))):=Rn.one λ_ h=> .andI h hd hn ha
theorem Uv{d s:Int}(hd:CL d)(hs:rM d s)(h:r s≠ .none):Rn rows pk port (ins (Bj 11 d s) 0::suf) r suf (CU r d (r s)):=Rn.one λ_ hc=> .movR hc hd hs h
theorem eY{d s a b:Int}(hd:CL d)(hs:rP 2 3 d s)(ha:r d= .num a)(hb:r s= .num b):Rn rows pk port (ins (Bj 5 d s) 0::suf) r suf (CU r d (.num (DZ a b))):=Rn.one λ_ hc=> .andR hc hd hs ha hb
theorem mP{n:Int}:Rn rows pk port (ins (HC n) 0::suf) r suf (CU r 0 (.num (n % 4294967296))):=Rn.one λ_ hc=> .low hc
theorem mQ{d s:Int}(hd:CL d)(hs:rP 8 6 d s)(h:r s= .ctx):Rn rows pk port (ins (BL 4 d s 0) 0::suf) r suf (CU r d (.num pk.length)):=Rn.one λ_ hc=> .ldLen hc hd hs h
theorem eZ{d s:Int}(hd:CL d)(hs:rP 2 6 d s)(h:r s= .ctx):Rn rows pk port (ins (BL 4 d s 4) 0::suf) r suf (CU r d (.num port)):=Rn.one λ_ hc=> .ldPort hc hd hs h
theorem mR{d s:Int}(hd:CL d)(hs:rP 7 1 d s)(h:r s= .ctx):Rn rows pk port (ins (BL 8 d s 8) 0::suf) r suf (CU r d .pkt):=Rn.one λ_ hc=> .ldPkt hc hd hs h
theorem Yz{z d s:Int}{o:Nat}(hz:Qj z)(hd:CL d)(hs:rP 2 7 d s)(h:r s= .pkt)(ho:o<=2000)(hl:o+z.toNat<=pk.length)(ho2:o<=1000):Rn rows pk port (ins (BL z d s o) 0::suf) r suf (CU r d (.num (Eh (cut pk o z.toNat)))):=Rn.one λ_ hc=> .ld hc hz hd hs h ho2 hl
theorem ed{z a:Int}(hz:Qj z)(h1:1<z)(ha:r 2= .num a)(h0:0<=a)(hl:a<256 ^ z.toNat):Rn rows pk port (ins (Ci z) 0::suf) r suf (CU r 2 (.num (Fi z a))):=Rn.one λ_ hc=> .swap hc hz h1 ha h0 hl
theorem Pd(n:Int):Kg n % 4294967296=n % 4294967296:=by
 unfold Kg
 rw[IntKind.wrap_i32]
 omega
theorem XD{n:Int}(h:EN n):Kg n=n:=IntWalk.i32_in _ (by have:=h.1;have:=h.2;omega)
theorem Qr{n:Int}(h0:0<=n)(h1:n<18446744073709551616):Rn rows pk port (ins (Bq n) 0::ins (DG n) 0::suf) r suf (CU r 3 (.num n)):=λpre hp=>by
 have a1:=EO pre (ins (DG n) 0::suf) (Bq n) 0
 have a2:=EO (pre++ [ins (Bq n) 0]) suf (DG n) 0
 have e0:pre++ [ins (Bq n) 0]++ins (DG n) 0::suf=rows:=by rw[hp];simp
 have e1:B3 (pre++ [ins (Bq n) 0])=B3 pre+1:=by rw[Bk];simp[B3,B4,ins]
 have e2:B3 (pre++ [ins (Bq n) 0,ins (DG n) 0])=B3 pre+2:=by rw[Bk];simp[B3,B4,ins]
 rw[if_neg (Nat.lt_irrefl 0),←hp]at a1
 rw[if_neg (Nat.lt_irrefl 0),e0,e1]at a2
 refine⟨pre++ [ins (Bq n) 0,ins (DG n) 0],1,by rw[hp];simp,?_⟩
 rw[e2]
 have hs:=E6.const (pk:=pk) (port:=port) (r:=r) a1 a2
 rw[Pd,Pd,show n % 4294967296 % 4294967296+4294967296*(n / 4294967296 % 4294967296)=n by omega]at hs
 exact .cons hs .nil
theorem ef(q n:Nat)(x:B9):TM q n x=BJ x (Gy ((q:Int) - n - 1)):=rfl
theorem Uw(pre suf:List BB)(x:B9)(l:Nat)(hp:rows=pre++ins x (l+1)::suf):∃o,(Bf rows)[B3 pre]?=some (BJ x o):=by
 have a1:=EO pre suf x (l+1)
 rw[if_pos (Nat.succ_pos l),←hp]at a1
 exact⟨_,a1⟩
theorem Pe{op d n a:Int}{l:Nat}(hop:mO op)(hd:rJ d)(hn:EN n)(ha:r d= .num a)(ht:DA op a n=false):Rn rows pk port (ins (DO op d n) (l+1)::suf) r suf r:=λpre hp=>by
 obtain⟨o,ho⟩:=Uw pre suf _ l hp
 have e:B3 (pre++ [ins (DO op d n) (l+1)])=B3 pre+1:=by rw[Bk];simp[B3,B4,ins]
 refine⟨pre++ [ins (DO op d n) (l+1)],1,by rw[hp];simp,?_⟩
 rw[e]
 exact .cons (.jif ho hop hd hn ha (by rw[ht];simp) (by omega)) .nil
theorem Pf{op d n a:Int}{l:Nat}{mid:List BB}(hb:B3 rows<=20000)(hop:mO op)(hd:rJ d)(hn:EN n)(ha:r d= .num a)(ht:DA op a n=true)(hl:l+1∉AL suf'):Rn rows pk port (ins (DO op d n) (l+1)::(mid++lab (l+1)::suf')) r suf' r:=λpre hp=>by
 obtain⟨o,h1,h2,h3,h4⟩:=Pc hp hl hb
 obtain⟨p2,n2,e2,r2⟩:=Rn.lab (pk:=pk) (port:=port) (r:=r) l _ h4
 exact⟨p2,_,e2, .cons (.jif h1 hop hd hn ha (by rw[ht,if_pos rfl];exact h2) h3) r2⟩
theorem ei{op a b:Int}{l:Nat}(hop:op=10\/op=2)(ha:r 2= .num a)(hb:r 3= .num b)(ht:DA op a b=false):Rn rows pk port (ins (Ey op) (l+1)::suf) r suf r:=λpre hp=>by
 obtain⟨o,ho⟩:=Uw pre suf _ l hp
 have e:B3 (pre++ [ins (Ey op) (l+1)])=B3 pre+1:=by rw[Bk];simp[B3,B4,ins]
 refine⟨pre++ [ins (Ey op) (l+1)],1,by rw[hp];simp,?_⟩
 rw[e]
 exact .cons (.jifR ho hop ha hb (by rw[ht];simp) (by omega)) .nil
theorem ZA{op a b:Int}{l:Nat}{mid:List BB}(hbd:B3 rows<=20000)(hop:op=10\/op=2)(ha:r 2= .num a)(hb:r 3= .num b)(ht:DA op a b=true)(hl:l+1∉AL suf'):Rn rows pk port (ins (Ey op) (l+1)::(mid++lab (l+1)::suf')) r suf' r:=λpre hp=>by
 obtain⟨o,h1,h2,h3,h4⟩:=Pc hp hl hbd
 obtain⟨p2,n2,e2,r2⟩:=Rn.lab (pk:=pk) (port:=port) (r:=r) l _ h4
 exact⟨p2,_,e2, .cons (.jifR h1 hop ha hb (by rw[ht,if_pos rfl];exact h2) h3) r2⟩
theorem Jz{l:Nat}{mid:List BB}(hbd:B3 rows<=20000)(hl:l+1∉AL suf'):Rn rows pk port (ins CC (l+1)::(mid++lab (l+1)::suf')) r suf' r:=λpre hp=>by
 obtain⟨o,h1,h2,h3,h4⟩:=Pc hp hl hbd
 obtain⟨p2,n2,e2,r2⟩:=Rn.lab (pk:=pk) (port:=port) (r:=r) l _ h4
 exact⟨p2,_,e2, .cons (.goto h1 h2 h3) r2⟩
theorem HD(h:Cq r):∃r',Rn rows pk port (A9++suf) r suf r'/\Cq r'/\r' 2= .num 0/\r' 8= .num pk.length:=by
 refine⟨CU (CU (CU r 2 (.num 0)) 3 (.num 0)) 8 (.num pk.length),?_,((h.set (by decide) (by decide)).set (by decide) (by decide)).set (by decide) (by decide),?_,C3 ..⟩
 ·exact((Ut (d:=2) (n:=0) ⟨by decide,by decide⟩ ⟨by decide,by decide⟩).trans (Ut (d:=3) (n:=0) ⟨by decide,by decide⟩ ⟨by decide,by decide⟩)).trans (mQ (d:=8) (s:=6) ⟨by decide,by decide⟩ ⟨by decide,by decide⟩ (by rw[FT (by decide),FT (by decide)];exact h.1))
 ·rw[FT (by decide),FT (by decide),C3]
theorem Pg{a o:Nat}{n:Int}{mid:List BB}(hbd:B3 rows<=20000)(hn:EN n)(h8:r 8= .num pk.length)(hs:suf=mid++lab (o+1)::suf')(ha:a+1∉AL suf)(ho:o+1∉AL suf'):
  Rn rows pk port (Cr (a+1) n (o+1)++suf) r (if n<=pk.length then suf else suf') r:=by
 have hd:rJ 8:=⟨by decide,by decide⟩
 have e:Cr (a+1) n (o+1)++suf=ins (DO 3 8 n) (a+1)::([ins CC (o+1)]++lab (a+1)::suf):=by simp[Cr,XD hn]
 rw[e]
 by_cases h:n<=pk.length
 ·rw[if_pos h];exact Pf hbd (.inl rfl) hd hn h8 (by simp[DA,h]) ha
 ·rw[if_neg h];refine(Pe (.inl rfl) hd hn h8 (by simp[DA];omega)).trans ?_;have e2: [ins CC (o+1)]++lab (a+1)::suf=ins CC (o+1)::((lab (a+1)::mid)++lab (o+1)::suf'):=by rw[hs];simp
  rw[e2];exact Jz hbd ho
theorem Ux{op n a:Int}{o:Nat}{mid:List BB}(hbd:B3 rows<=20000)(hop:op=10\/op=2)(h0:0<=n)(h1:n<18446744073709551616)(hR:Cq r)(h2:r 2= .num a)(hs:suf=mid++lab (o+1)::suf')(ho:o+1∉AL suf'):
  ∃r',Rn rows pk port (Di op n (o+1)++suf) r (if DA op a n=true then suf' else suf) r'/\Cq r'/\r' 2= .num a:=by
 have hd:rJ 2:=⟨by decide,by decide⟩
 have hop4:mO op:=by rcases hop with rfl|rfl<;>simp[mO]
 by_cases hn:n<2147483648
 ·have e:Di op n (o+1)++suf=ins (DO op 2 n) (o+1)::suf:=by simp[Di,hn]
  rw[e];refine⟨r,?_,hR,h2⟩;by_cases ht:DA op a n=true
  ·rw[if_pos ht,hs];exact Pf hbd hop4 hd ⟨h0,hn⟩ h2 ht ho
  ·rw[if_neg ht];exact Pe hop4 hd ⟨h0,hn⟩ h2 (by simpa using ht)
 ·have e:Di op n (o+1)++suf=ins (Bq n) 0::ins (DG n) 0::ins (Ey op) (o+1)::suf:=by simp[Di,hn]
  rw[e];have h22:CU r 3 (.num n) 2= .num a:=by rw[FT (by decide)];exact h2
  refine⟨CU r 3 (.num n),(Qr h0 h1).trans ?_,hR.set (by decide) (by decide),h22⟩;by_cases ht:DA op a n=true
  ·rw[if_pos ht,hs];exact ZA hbd hop h22 (C3 ..) ht ho
  ·rw[if_neg ht];exact ei hop h22 (C3 ..) (by simpa using ht)
end Go.Cmp
namespace Go.Cmp
open Go Go.DI
variable{pk:List Int}{port:Int}{rows suf suf' sO sF X Y:List BB}{r:Int->RV}
def EA(pk:List Int):Prop:=∀b∈pk,0<=b/\b<256
theorem HE:∀l:List Int,EA l->0<=Eh l/\Eh l<256 ^ l.length
 | [],_=>by simp[Eh]
 |b::l,h=>by
  have ih:=HE l λx hx=>h x (by simp[hx]);have hb:=h b (by simp);have e:Eh (b::l)=b+256*Eh l:=rfl;rw[e,List.length_cons,Int.pow_succ];omega
theorem Mh:∀l:List Int,EA l->Pa l.length (Eh l)=l
 | [],_=>rfl
 |b::l,h=>by
  have ih:=Mh l λx hx=>h x (by simp[hx]);have hb:=h b (by simp);have e:Eh (b::l)=b+256*Eh l:=rfl;rw[e,List.length_cons,Pa,show(b+256*Eh l) % 256=b by omega,show(b+256*Eh l) / 256=Eh l by omega,ih]
theorem TN:∀(l:List Int) (n:Int),l.foldl (λn b=>256*n+b) n=n*256 ^ l.length+Ho l
 | [],n=>by simp[Ho]
 |b::l,n=>by
  have h1:=TN l (256*n+b);have h2:=TN l (256*0+b);have e:Ho (b::l)=l.foldl (λn b=>256*n+b) (256*0+b):=rfl;rw[List.foldl_cons,h1,e,h2,List.length_cons,Int.pow_succ]
  have:(256*n+b)*256 ^ l.length=n*(256 ^ l.length*256)+b*256 ^ l.length:=by
   rw[Int.add_mul,Int.mul_comm 256 n,Int.mul_assoc,Int.mul_comm 256]
  rw[this,show(256:Int)*0+b=b by omega];omega
theorem I7:∀l:List Int,EA l->0<=Ho l/\Ho l<256 ^ l.length
 | [],_=>by simp[Ho]
 |b::l,h=>by
  have ih:=I7 l λx hx=>h x (by simp[hx]);have hb:=h b (by simp);have e:Ho (b::l)=l.foldl (λn b=>256*n+b) (256*0+b):=rfl
  have hp:(0:Int)<256 ^ l.length:=by
   have:=Int.pow_pos (n:=256) (m:=l.length) (by decide);exact this
  rw[e,TN,List.length_cons,Int.pow_succ,show(256:Int)*0+b=b by omega];have h1:0<=b*256 ^ l.length:=Int.mul_nonneg hb.1 (by omega);have h2:b*256 ^ l.length<=255*256 ^ l.length:=Int.mul_le_mul_of_nonneg_right (by omega) (by omega);omega
theorem ej{at_ z:Nat}(h:at_+z<=pk.length):(cut pk at_ z).length=z:=by
 unfold cut;rw[List.length_take,List.length_drop];omega
theorem mT{at_ z:Nat}(h:EA pk):EA (cut pk at_ z):=λb hb=>h b (List.mem_of_mem_drop (List.mem_of_mem_take hb))
def Dl(t:A8)(pk:List Int)(port:Int):Option Int:=
 if t.kind=1 then some pk.length
 else if t.kind=2 then some port
 else
  let a:=if t.kind=3 then t.pos.toNat else 14+4*((pk.getD 14 0) % 16).toNat+t.pos.toNat
  if(t.kind=3\/15<=pk.length)/\a+t.size.toNat<=pk.length then some (DZ (Ho (cut pk a t.size.toNat)) t.mask)else none
def CP(t:A8)(pk:List Int)(port:Int):Bool:=
 (match Dl t pk port with|some n=>decide (t.lo<=n/\n<=t.hi)|none=>false) !=t.neg
theorem Fv(a:Nat)(n:Int)(o:Nat):AL (Cr (a+1) n o)= [a+1]:=by simp[Cr,DE,Da];rfl
theorem HF(t:A8)(o d:Nat):∀(m k n:Nat),∀x∈AL (C6 t o d m k n),n<x/\x<=n+2*m
 |0,_,_,x,h=>by simp[C6,AL]at h
 |m+1,k,n,x,h=>by
  simp only[C6,BO,Fv,DE,Da,List.mem_append]at h;rcases h with((h|h)|h)|h
  ·simp[AL]at h
  ·simp at h;omega
  ·simp[AL]at h;omega
  ·have:=HF t o d m (k+1) (n+2) x h;omega
theorem Uy{t:A8}{o d:Nat}{a:Int}{mid:List BB}(hbd:B3 rows<=20000)(hz:Qj t.size)(hp0:0<=t.pos)(hp:t.pos<=255)(ha:a<16)
  (hX:X=lab (d+1)::Y) (hXo:X=mid++lab (o+1)::sO) (hdY:d+1∉AL Y) (hoO:o+1∉AL sO):
  ∀(m k n:Nat) (r:Int->RV),(k:Int)<=a->k+m=16->d+1<=n->(∀x∈AL X,x<=n\/n+2*m<x)->Cq r->r 8= .num pk.length->r 2= .num a->
  ∃r',Rn rows pk port (C6 t (o+1) (d+1) m k n++X) r (if 14+4*a.toNat+t.pos.toNat+t.size.toNat<=pk.length then Y else sO) r'/\Cq r'/\(14+4*a.toNat+t.pos.toNat+t.size.toNat<=pk.length->r' 2= .num (Eh (cut pk (14+4*a.toNat+t.pos.toNat) t.size.toNat)))
 |0,k,n,r,h1,h2,_,_,_,_,_=>by omega
 |m+1,k,n,r,h1,h2,hdn,hlX,hR,h8,hr2=>by
  have hzb:1<=t.size/\t.size<=8:=by rcases hz with h|h|h|h<;>omega
  have hsk:EN (k:Int):=⟨by omega,by omega⟩;by_cases hka:(k:Int)=a
  ·
   have ea:a.toNat=k:=by omega
   obtain⟨Z,hZ⟩:∃Z,C6 t (o+1) (d+1) m (k+1) (n+2)++X=Z:=⟨_,rfl⟩
   have e:C6 t (o+1) (d+1) (m+1) k n++X=ins (DO 5 2 k) ((if k=15 then o else n)+1)::(Cr (n+1+1) (14+4*(k:Int)+t.pos+t.size) (o+1)++(ins (BL t.size 2 7 ((14+4*k+t.pos.toNat:Nat):Int)) 0::ins CC (d+1)::lab (n+1)::Z)):=by
    rw[←hZ];have e1:((14+4*k+t.pos.toNat:Nat):Int)=14+4*(k:Int)+t.pos:=by omega
    rw[e1];by_cases hk15:k=15<;>simp[C6,hk15]
   rw[e]
   have hsO:∃mid',ins (BL t.size 2 7 ((14+4*k+t.pos.toNat:Nat):Int)) 0::ins CC (d+1)::lab (n+1)::Z=mid'++lab (o+1)::sO:=
    ⟨ins (BL t.size 2 7 ((14+4*k+t.pos.toNat:Nat):Int)) 0::ins CC (d+1)::lab (n+1)::(C6 t (o+1) (d+1) m (k+1) (n+2)++mid),by rw[←hZ,hXo];simp⟩
   obtain⟨mid',hmid'⟩:=hsO
   have hlZ:∀x∈AL Z,n+2<x\/x<=n:=λx hx=>by
    rw[←hZ,BO]at hx;rcases List.mem_append.1 hx with hx|hx
    ·have:=HF t (o+1) (d+1) m (k+1) (n+2) x hx;omega
    ·have:=hlX x hx;omega
   have hl1:n+1+1∉AL (ins (BL t.size 2 7 ((14+4*k+t.pos.toNat:Nat):Int)) 0::ins CC (d+1)::lab (n+1)::Z):=by
    rw[DE,DE,Da];intro hx;rcases List.mem_cons.1 hx with hx|hx
    ·omega
    ·have:=hlZ _ hx;omega
   have hno:=Pe (rows:=rows) (pk:=pk) (port:=port) (op:=5) (d:=2) (n:=(k:Int)) (l:=if k=15 then o else n) (suf:=Cr (n+1+1) (14+4*(k:Int)+t.pos+t.size) (o+1)++(ins (BL t.size 2 7 ((14+4*k+t.pos.toNat:Nat):Int)) 0::ins CC (d+1)::lab (n+1)::Z)) (.inr (.inl rfl)) ⟨by decide,by decide⟩ hsk hr2 (by simp[DA,hka]);have htold:=Pg (rows:=rows) (pk:=pk) (port:=port) (r:=r) (a:=n+1) (o:=o) (n:=14+4*(k:Int)+t.pos+t.size) hbd ⟨by omega,by omega⟩ h8 hmid' hl1 hoO
   have e3:(14+4*(k:Int)+t.pos+t.size<=pk.length)=(14+4*a.toNat+t.pos.toNat+t.size.toNat<=pk.length):=by
    apply propext;omega
   by_cases hc:14+4*a.toNat+t.pos.toNat+t.size.toNat<=pk.length
   ·rw[if_pos (by rw[e3];exact hc)]at htold;rw[if_pos hc];refine⟨CU r 2 (.num (Eh (cut pk (14+4*k+t.pos.toNat) t.size.toNat))),(hno.trans htold).trans ?_,hR.set (by decide) (by decide),λ_=>by rw[C3,ea]⟩;refine(Yz hz ⟨by decide,by decide⟩ ⟨by decide,by decide⟩ hR.2 (by omega) (by omega) (by omega)).trans ?_;have e4:ins CC (d+1)::lab (n+1)::Z=ins CC (d+1)::((lab (n+1)::C6 t (o+1) (d+1) m (k+1) (n+2))++lab (d+1)::Y):=by rw[←hZ,hX];simp
    rw[e4];exact Jz hbd hdY
   ·rw[if_neg (by rw[e3];exact hc)]at htold;rw[if_neg hc];exact⟨r,hno.trans htold,hR,λh=>absurd h hc⟩
  ·
   have hk15:k≠15:=by omega
   obtain⟨r',h3,h4,h5⟩:=Uy hbd hz hp0 hp ha hX hXo hdY hoO m (k+1) (n+2) r (by omega) (by omega) (by omega) (λx hx=>by have:=hlX x hx;omega) hR h8 hr2;refine⟨r',Rn.trans ?_ h3,h4,h5⟩
   have e:C6 t (o+1) (d+1) (m+1) k n++X=ins (DO 5 2 k) (n+1)::((Cr (n+2) (14+4*(k:Int)+t.pos+t.size) (o+1)++ [ins (BL t.size 2 7 (14+4*(k:Int)+t.pos)) 0,ins CC (d+1)])++lab (n+1)::(C6 t (o+1) (d+1) m (k+1) (n+2)++X)):=by
    simp[C6,hk15]
   rw[e];refine Pf hbd (.inr (.inl rfl)) ⟨by decide,by decide⟩ hsk hr2 (by simp[DA];omega) ?_;rw[BO];intro hx;rcases List.mem_append.1 hx with hx|hx
   ·have:=HF t (o+1) (d+1) m (k+1) (n+2) _ hx;omega
   ·have:=hlX _ hx;omega
end Go.Cmp
namespace Go.Cmp
open Go Go.DI
variable{pk:List Int}{port:Int}{rows suf sF E:List BB}{r:Int->RV}
structure KA(t:A8):Prop where
 lo0:0<=t.lo
 le:t.lo<=t.hi
 kind:(t.kind=1\/t.kind=2)/\BY t=false/\t.hi<4294967296\/(t.kind=3\/t.kind=4)/\BY t=true/\Qj t.size/\0<=t.pos/\t.pos<=255/\1<=t.mask/\t.mask<=B2 t.size/\t.hi<=B2 t.size
theorem Uz{z:Int}(h:Qj z):B2 z+1=256 ^ z.toNat/\B2 z<18446744073709551616/\255<=B2 z:=by
 rcases h with rfl|rfl|rfl|rfl<;>decide
theorem testW{t:A8}(h:Dg t=true)(h0:0<=t.lo):KA t:=by
 unfold Dg at h
 split at h
 ·cases h
 ·rename_i hle;split at h
  ·rename_i hk;simp only[decide_eq_true_eq]at h;refine⟨h0,by omega, .inl ⟨hk,?_,h.2.2.2⟩⟩;unfold BY;rcases hk with hk|hk<;>simp[hk]
  ·split at h
   ·cases h
   ·rename_i hk hk2;split at h
    ·cases h
    ·rename_i hs;simp only[decide_eq_true_eq]at h;refine⟨h0,by omega, .inr ⟨by omega,?_,by unfold Qj;omega,h.1,h.2.1,h.2.2.1,h.2.2.2.1,h.2.2.2.2⟩⟩;unfold BY;have:t.kind=3\/t.kind=4:=by omega
     rcases this with hk|hk<;>simp[hk]
theorem ZB{z x:Int}(hz:Qj z)(h0:0<=x)(h1:x<256 ^ z.toNat):DZ x (B2 z)=x:=by
 obtain⟨a,rfl⟩:=Int.eq_ofNat_of_zero_le h0
 unfold DZ
 have key:∀n:Nat,(a:Int)< ((2 ^ n:Nat):Int)->(((a:Int).toNat &&& (((2 ^ n - 1:Nat):Int)).toNat:Nat):Int)=(a:Int):=λn hn=>by
  rw[Int.toNat_natCast,Int.toNat_natCast,Nat.and_two_pow_sub_one_eq_mod,Nat.mod_eq_of_lt (by omega)]
 rcases hz with rfl|rfl|rfl|rfl
 ·exact key 8 (by simpa using h1)
 ·exact key 16 (by simpa using h1)
 ·exact key 32 (by simpa using h1)
 ·exact key 64 (by simpa using h1)
theorem mU{a b:Int}(hb:0<=b):0<=DZ a b/\DZ a b<=b:=by
 unfold DZ
 have:=Nat.and_le_right (n:=a.toNat) (m:=b.toNat)
 omega
def GX(t:A8)(pk:List Int)(port:Int):Option Int:=
 if t.kind=1 then some pk.length
 else if t.kind=2 then some port
 else
  let a:=if t.kind=3 then t.pos.toNat else 14+4*((pk.getD 14 0) % 16).toNat+t.pos.toNat
  if(t.kind=3\/15<=pk.length)/\a+t.size.toNat<=pk.length then some (Eh (cut pk a t.size.toNat))else none
def GD(t:A8)(n fail:Nat)(suf:List BB):List BB:=if t.neg=true then lab (n+2)::suf else A9++ins CC fail::lab (n+2)::suf
def E7(t:A8)(n fail:Nat)(suf:List BB):List BB:=Dm t++(EU t (n+1)++(endS t (n+1) (n+2) fail++suf))
theorem Ko(t:A8):AL (Dm t)= []:=by
 unfold Dm
 split
 ·rw[BO];split<;>split<;>(try split)<;>simp[AL,B4,ins]
 ·rfl
theorem XE(op n:Int)(o:Nat):AL (Di op n o)= []:=by
 unfold Di
 split<;>simp[AL,B4,ins]
theorem JY(t:A8)(o:Nat):AL (EU t o)= []:=by
 unfold EU
 rw[BO]
 split<;>split<;>simp[XE] <;>rfl
theorem VA(t:A8)(n fail:Nat)(suf:List BB):∃mid,endS t (n+1) (n+2) fail++suf=mid++lab (n+1)::GD t n fail suf:=by
 unfold endS GD
 by_cases h:t.neg=true
 ·rw[if_pos h,if_pos h];exact⟨A9++ [ins CC fail],by simp⟩
 ·rw[if_neg h,if_neg h];exact⟨[ins CC (n+2)],by simp⟩
theorem ZC(t:A8)(n fail:Nat)(suf:List BB):∃mid,E7 t n fail suf=mid++lab (n+1)::GD t n fail suf:=by
 obtain⟨mid,h⟩:=VA t n fail suf
 exact⟨Dm t++(EU t (n+1)++mid),by unfold E7;rw[h];simp⟩
theorem Qs(t:A8)(n fail:Nat)(suf:List BB):AL (GD t n fail suf)=(n+2)::AL suf:=by
 unfold GD
 split
 ·rw[Da]
 ·simp[A9,DE,Da]
theorem Mi(t:A8)(n fail:Nat):AL (endS t (n+1) (n+2) fail)= [n+1,n+2]:=by
 unfold endS
 split<;>simp[A9,DE,Da] <;>rfl
theorem XF(t:A8)(n fail:Nat)(suf:List BB):AL (E7 t n fail suf)=(n+1)::(n+2)::AL suf:=by
 unfold E7
 rw[BO,BO,BO,Ko,JY,Mi]
 rfl
theorem mW{a:Int}(h:15<=pk.length)(hb:EA pk):Eh (cut pk 14 1)=pk.getD 14 0/\0<=pk.getD 14 0/\pk.getD 14 0<256/\DZ (pk.getD 14 0) 15=pk.getD 14 0 % 16:=by
 obtain⟨x,hx⟩:∃x,pk[14]?=some x:=⟨_,List.getElem?_eq_getElem (by omega)⟩
 have e:pk.getD 14 0=x:=by rw[List.getD_eq_getElem?_getD,hx];rfl
 have hd:pk.drop 14=x::pk.drop 15:=by
  have:=List.drop_eq_getElem_cons (l:=pk) (i:=14) (by omega);rw[this];congr 1;have:=List.getElem?_eq_getElem (l:=pk) (i:=14) (by omega);rw[this]at hx;exact Option.some.inj hx
 have hbx:=hb x (List.mem_of_getElem? hx)
 rw[e]
 refine⟨by unfold cut;rw[hd];simp[Eh],hbx.1,hbx.2,?_⟩
 obtain⟨a,rfl⟩:=Int.eq_ofNat_of_zero_le hbx.1
 unfold DZ
 show(((a:Int).toNat &&& 15:Nat):Int)=_
 rw[Int.toNat_natCast,show(15:Nat)=2 ^ 4 - 1 from rfl,Nat.and_two_pow_sub_one_eq_mod]
 omega
theorem mX{t:A8}{n fail:Nat}(hbd:B3 rows<=20000)(hW:KA t)(hb:EA pk)(hs:∀x∈AL suf,x<=n\/Eb t n<x)(hR:Cq r)(h8:r 8= .num pk.length):
  ∃r',Rn rows pk port (FZ t n++E7 t n fail suf) r (if(GX t pk port).isSome=true then E7 t n fail suf else GD t n fail suf) r'/\Cq r'/\∀a,GX t pk port=some a->r' 2= .num a:=by
 obtain⟨mid,hmid⟩:=ZC t n fail suf
 have hlO:AL (GD t n fail suf)=(n+2)::AL suf:=Qs ..
 have hlT:AL (E7 t n fail suf)=(n+1)::(n+2)::AL suf:=XF ..
 have hgt:n+2<=Eb t n:=by unfold Eb;split<;>(try split)<;>omega
 have hoO:n+1∉AL (GD t n fail suf):=by
  rw[hlO];intro hx;rcases List.mem_cons.1 hx with hx|hx
  ·omega
  ·have:=hs _ hx;omega
 rcases hW.kind with⟨hk,_,_⟩|⟨hk,_,hz,hp0,hp1,_,_,_⟩
 ·rcases hk with hk|hk
  ·have e:FZ t n= [ins (Bj 11 2 8) 0]:=by unfold FZ;rw[if_pos hk]
   have er:GX t pk port=some (pk.length:Int):=by unfold GX;rw[if_pos hk]
   rw[e,er];refine⟨CU r 2 (r 8),?_,hR.set (by decide) (by decide),λa ha=>by cases ha;rw[C3,h8]⟩;rw[Option.isSome_some,if_pos rfl];exact Uv ⟨by decide,by decide⟩ ⟨by decide,by decide⟩ (by rw[h8];intro h;cases h)
  ·have hk1:¬t.kind=1:=by omega
   have e:FZ t n= [ins (BL 4 2 6 4) 0]:=by unfold FZ;rw[if_neg hk1,if_pos hk]
   have er:GX t pk port=some port:=by unfold GX;rw[if_neg hk1,if_pos hk]
   rw[e,er];refine⟨CU r 2 (.num port),?_,hR.set (by decide) (by decide),λa ha=>by cases ha;rw[C3]⟩;rw[Option.isSome_some,if_pos rfl];exact eZ ⟨by decide,by decide⟩ ⟨by decide,by decide⟩ hR.1
 ·have hzb:1<=t.size/\t.size<=8:=by rcases hz with h|h|h|h<;>omega
  have hk1:¬t.kind=1:=by omega
  have hk2:¬t.kind=2:=by omega
  rcases hk with hk|hk
  ·have e:FZ t n=Cr (n+2+1) (t.pos+t.size) (n+1)++ [ins (BL t.size 2 7 (t.pos.toNat:Int)) 0]:=by
    unfold FZ;rw[if_neg hk1,if_neg hk2,if_pos hk,show(t.pos.toNat:Int)=t.pos by omega]
   have er:GX t pk port=if t.pos.toNat+t.size.toNat<=pk.length then some (Eh (cut pk t.pos.toNat t.size.toNat))else none:=by
    unfold GX;rw[if_neg hk1,if_neg hk2];simp[hk]
   have hkn:Eb t n=n+3:=by unfold Eb;rw[if_neg (by omega),if_pos hk]
   rw[e,List.append_assoc]
   have htold:=Pg (rows:=rows) (pk:=pk) (port:=port) (r:=r) (a:=n+2) (o:=n) (n:=t.pos+t.size) (suf:=ins (BL t.size 2 7 (t.pos.toNat:Int)) 0::E7 t n fail suf) (suf':=GD t n fail suf) (mid:=ins (BL t.size 2 7 (t.pos.toNat:Int)) 0::mid) hbd ⟨by omega,by omega⟩ h8 (by rw[hmid];rfl)
    (by
     rw[DE,hlT];intro hx;rcases List.mem_cons.1 hx with hx|hx;· omega
     rcases List.mem_cons.1 hx with hx|hx;· omega
     have:=hs _ hx;omega) hoO
   have e3:(t.pos+t.size<=pk.length)=(t.pos.toNat+t.size.toNat<=pk.length):=by apply propext;omega
   by_cases hc:t.pos.toNat+t.size.toNat<=pk.length
   ·rw[if_pos (by rw[e3];exact hc)]at htold;rw[er,if_pos hc];refine⟨CU r 2 (.num (Eh (cut pk t.pos.toNat t.size.toNat))),?_,hR.set (by decide) (by decide),λa ha=>by cases ha;rw[C3]⟩;rw[Option.isSome_some,if_pos rfl];exact htold.trans (Yz hz ⟨by decide,by decide⟩ ⟨by decide,by decide⟩ hR.2 (by omega) hc (by omega))
   ·rw[if_neg (by rw[e3];exact hc)]at htold;rw[er,if_neg hc];exact⟨r,htold,hR,λa ha=>by cases ha⟩
  ·have hk3:¬t.kind=3:=by omega
   have hkn:Eb t n=n+36:=by unfold Eb;rw[if_neg (by omega),if_neg hk3]
   rw[hkn]at hs;obtain⟨X,hX⟩:∃X,lab (n+2+1)::E7 t n fail suf=X:=⟨_,rfl⟩;have hlX:AL X=(n+3)::(n+1)::(n+2)::AL suf:=by rw[←hX,Da,hlT]
   have e:FZ t n++E7 t n fail suf=Cr (n+3+1) 15 (n+1)++(ins (BL 1 2 7 ((14:Nat):Int)) 0::ins (DU 5 2 15) 0::(C6 t (n+1) (n+2+1) 16 0 (n+4)++X)):=by
    rw[←hX];unfold FZ;rw[if_neg hk1,if_neg hk2,if_neg hk3];simp
   have hXo:X=(lab (n+2+1)::mid)++lab (n+1)::GD t n fail suf:=by rw[←hX,hmid];rfl
   rw[e]
   have htold:=Pg (rows:=rows) (pk:=pk) (port:=port) (r:=r) (a:=n+3) (o:=n) (n:=15) (suf:=ins (BL 1 2 7 ((14:Nat):Int)) 0::ins (DU 5 2 15) 0::(C6 t (n+1) (n+2+1) 16 0 (n+4)++X)) (suf':=GD t n fail suf) (mid:=ins (BL 1 2 7 ((14:Nat):Int)) 0::ins (DU 5 2 15) 0::(C6 t (n+1) (n+2+1) 16 0 (n+4)++(lab (n+2+1)::mid))) hbd ⟨by decide,by decide⟩ h8 (by rw[hXo];simp)
    (by
     rw[DE,DE,BO,hlX];intro hx;rcases List.mem_append.1 hx with hx|hx
     ·have:=HF t (n+1) (n+2+1) 16 0 (n+4) _ hx;omega
     ·simp only[List.mem_cons]at hx;rcases hx with hx|hx|hx|hx
      ·omega
      ·omega
      ·omega
      ·have:=hs _ hx;omega) hoO
   by_cases h15:15<=pk.length
   ·obtain⟨b1,b2,b3,b4⟩:=mW (a:=0) h15 hb
    have er:GX t pk port=if 14+4*((pk.getD 14 0) % 16).toNat+t.pos.toNat+t.size.toNat<=pk.length then some (Eh (cut pk (14+4*((pk.getD 14 0) % 16).toNat+t.pos.toNat) t.size.toNat))else none:=by
     unfold GX;rw[if_neg hk1,if_neg hk2];simp[hk3,h15]
    rw[if_pos (by omega)]at htold;have hld:=Yz (rows:=rows) (pk:=pk) (port:=port) (r:=r) (z:=1) (d:=2) (s:=7) (o:=14) (suf:=ins (DU 5 2 15) 0::(C6 t (n+1) (n+2+1) 16 0 (n+4)++X)) (.inl rfl) ⟨by decide,by decide⟩ ⟨by decide,by decide⟩ hR.2 (by omega) (by show 14+1<=_;omega) (by omega);have e5:Eh (cut pk 14 (1:Int).toNat)=pk.getD 14 0:=b1;rw[e5]at hld;have hand:=Uu (rows:=rows) (pk:=pk) (port:=port) (r:=CU r 2 (.num (pk.getD 14 0))) (d:=2) (n:=15) (a:=pk.getD 14 0) (suf:=C6 t (n+1) (n+2+1) 16 0 (n+4)++X) ⟨by decide,by decide⟩ ⟨by decide,by decide⟩ (C3 ..);rw[b4]at hand
    have hdY:n+2+1∉AL (E7 t n fail suf):=by
     rw[hlT];simp only[List.mem_cons,not_or];exact⟨by omega,by omega,λhx=>by have:=hs _ hx;omega⟩
    obtain⟨r',p1,p2,p3⟩:=Uy (rows:=rows) (pk:=pk) (port:=port) (t:=t) (o:=n) (d:=n+2) (a:=pk.getD 14 0 % 16) (mid:=lab (n+2+1)::mid) (X:=X) (Y:=E7 t n fail suf) (sO:=GD t n fail suf) hbd hz hp0 hp1 (by omega) hX.symm hXo hdY hoO 16 0 (n+4) (CU (CU r 2 (.num (pk.getD 14 0))) 2 (.num (pk.getD 14 0 % 16))) (by omega) rfl (by omega)
     (λx hx=>by
      rw[hlX]at hx;simp only[List.mem_cons]at hx;rcases hx with hx|hx|hx|hx
      ·omega
      ·omega
      ·omega
      ·have:=hs _ hx;omega)
     ((hR.set (by decide) (by decide)).set (by decide) (by decide)) (by rw[FT (by decide),FT (by decide)];exact h8) (C3 ..)
    refine⟨r',((htold.trans hld).trans hand).trans ?_,p2,λa ha=>?_⟩
    ·rw[er];by_cases hc:14+4*((pk.getD 14 0) % 16).toNat+t.pos.toNat+t.size.toNat<=pk.length
     ·rw[if_pos hc]at p1 ⊢;exact p1
     ·rw[if_neg hc]at p1 ⊢;exact p1
    ·rw[er]at ha;split at ha
     ·rename_i hc;cases ha;exact p3 hc
     ·cases ha
   ·rw[if_neg (by omega)]at htold
    have er:GX t pk port=none:=by
     unfold GX;rw[if_neg hk1,if_neg hk2];simp[hk3,h15]
    rw[er];exact⟨r,htold,hR,λa ha=>by cases ha⟩
end Go.Cmp
namespace Go.Cmp
open Go Go.DI
variable{pk:List Int}{port:Int}{rows suf sF E:List BB}{r:Int->RV}
theorem ek{t:A8}{l:List Int}(hbT:BY t=true)(hz:Qj t.size)(hm1:1<=t.mask)(hm2:t.mask<=B2 t.size)(hl:(l.length:Int)=t.size)(hb:EA l)(hR:Cq r)(h2:r 2= .num (Eh l)):
  ∃r',Rn rows pk port (Dm t++E) r E r'/\Cq r'/\r' 2= .num (DZ (Ho l) t.mask):=by
 have hln:l.length=t.size.toNat:=by omega
 have hbd:=I7 l hb
 have hlb:=HE l hb
 have hfl:=Uz hz
 rw[hln]at hbd hlb
 obtain⟨r1,p1,q1,q2⟩:∃r1,Rn rows pk port ((if 1<t.size then [ins (Ci t.size) 0]else [])++((if t.mask=B2 t.size then []else if t.mask<2147483648 then [ins (DU 5 2 t.mask) 0]else [ins (Bq t.mask) 0,ins (DG t.mask) 0,ins (Bj 5 2 3) 0])++E)) r ((if t.mask=B2 t.size then []else if t.mask<2147483648 then [ins (DU 5 2 t.mask) 0]else [ins (Bq t.mask) 0,ins (DG t.mask) 0,ins (Bj 5 2 3) 0])++E) r1/\Cq r1/\r1 2= .num (Ho l):=by
  by_cases h1:1<t.size
  ·rw[if_pos h1]
   have hsw:Fi t.size (Eh l)=Ho l:=by
    unfold Fi;have:=Mh l hb;rw[hln]at this;rw[this]
   refine⟨CU r 2 (.num (Ho l)),?_,hR.set (by decide) (by decide),C3 ..⟩;have:=ed (rows:=rows) (pk:=pk) (port:=port) (r:=r) (z:=t.size) (a:=Eh l) (suf:=(if t.mask=B2 t.size then []else if t.mask<2147483648 then [ins (DU 5 2 t.mask) 0]else [ins (Bq t.mask) 0,ins (DG t.mask) 0,ins (Bj 5 2 3) 0])++E) hz h1 h2 hlb.1 hlb.2;rw[hsw]at this;exact this
  ·rw[if_neg h1];have hs1:t.size=1:=by rcases hz with h|h|h|h<;>omega
   have e:Eh l=Ho l:=by
    rw[hs1]at hln
    match l,hln with
    | [b],_=>simp[Eh,Ho]
   exact⟨r,Rn.refl,hR,by rw[h2,e]⟩
 have e:Dm t++E=(if 1<t.size then [ins (Ci t.size) 0]else [])++((if t.mask=B2 t.size then []else if t.mask<2147483648 then [ins (DU 5 2 t.mask) 0]else [ins (Bq t.mask) 0,ins (DG t.mask) 0,ins (Bj 5 2 3) 0])++E):=by
  unfold Dm;rw[if_pos hbT,List.append_assoc]
 rw[e]
 by_cases hf:t.mask=B2 t.size
 ·rw[if_pos hf]at p1 ⊢;refine⟨r1,p1,q1,?_⟩;rw[q2,hf,ZB hz hbd.1 hbd.2]
 ·rw[if_neg hf]at p1 ⊢;by_cases hs:t.mask<2147483648
  ·rw[if_pos hs]at p1 ⊢;exact⟨CU r1 2 (.num (DZ (Ho l) t.mask)),p1.trans (Uu ⟨by decide,by decide⟩ ⟨by omega,hs⟩ q2),q1.set (by decide) (by decide),C3 ..⟩
  ·rw[if_neg hs]at p1 ⊢;have h32:CU r1 3 (.num t.mask) 2= .num (Ho l):=by rw[FT (by decide)];exact q2
   exact⟨_,(p1.trans (Qr (by omega) (by omega))).trans (eY (d:=2) (s:=3) ⟨by decide,by decide⟩ ⟨by decide,by decide⟩ h32 (C3 ..)),(q1.set (by decide) (by decide)).set (by decide) (by decide),C3 ..⟩
theorem ZD{t:A8}{n:Nat}{a:Int}{mid sO:List BB}(hbd:B3 rows<=20000)(hlo:0<=t.lo)(hlo2:t.lo<18446744073709551616)(hhi:0<=t.hi)(hhi2:t.hi<18446744073709551616)(ha:0<=a)(haf:BY t=true->a<=B2 t.size)(hE:E=mid++lab (n+1)::sO)(ho:n+1∉AL sO)(hR:Cq r)(h2:r 2= .num a):
  ∃r',Rn rows pk port (EU t (n+1)++E) r (if t.lo<=a/\a<=t.hi then E else sO) r'/\Cq r':=by
 obtain⟨H,hH⟩:∃H,(if BY t=false\/t.hi≠B2 t.size then Di 2 t.hi (n+1)else [])=H:=⟨_,rfl⟩
 have e:EU t (n+1)++E=(if 0<t.lo then Di 10 t.lo (n+1)else [])++(H++E):=by
  unfold EU;rw[hH,List.append_assoc]
 rw[e]
 have high:∀r1:Int->RV,Cq r1->r1 2= .num a->∃r',Rn rows pk port (H++E) r1 (if a<=t.hi then E else sO) r'/\Cq r':=by
  intro r1 hR1 h21;by_cases hc:BY t=false\/t.hi≠B2 t.size
  ·rw[if_pos hc]at hH;subst hH;obtain⟨r',p1,p2,_⟩:=Ux (rows:=rows) (pk:=pk) (port:=port) (op:=2) (n:=t.hi) (o:=n) hbd (.inr rfl) hhi hhi2 hR1 h21 hE ho;refine⟨r',?_,p2⟩;by_cases h:a<=t.hi
   ·rw[if_pos h];rw[if_neg (by simp[DA];omega)]at p1;exact p1
   ·rw[if_neg h];rw[if_pos (by simp[DA];omega)]at p1;exact p1
  ·rw[if_neg hc]at hH;subst hH
   have hc':BY t=true/\t.hi=B2 t.size:=by
    cases hbb:BY t with
    |false=>exact absurd (.inl hbb) hc
    |true=>exact⟨rfl,Classical.byContradiction λh=>hc (.inr h)⟩
   refine⟨r1,?_,hR1⟩;rw[if_pos (by rw[hc'.2];exact haf hc'.1)];exact Rn.refl
 by_cases h0:0<t.lo
 ·rw[if_pos h0];obtain⟨r1,p1,q1,q2⟩:=Ux (rows:=rows) (pk:=pk) (port:=port) (op:=10) (n:=t.lo) (o:=n) (suf:=H++E) (mid:=H++mid) hbd (.inl rfl) hlo hlo2 hR h2 (by rw[hE];simp) ho;by_cases hl:t.lo<=a
  ·rw[if_neg (by simp[DA];omega)]at p1;obtain⟨r',p2,q3⟩:=high r1 q1 q2;refine⟨r',p1.trans ?_,q3⟩;by_cases h:a<=t.hi
   ·rw[if_pos ⟨hl,h⟩];rw[if_pos h]at p2;exact p2
   ·rw[if_neg (by omega)];rw[if_neg h]at p2;exact p2
  ·rw[if_pos (by simp[DA];omega)]at p1;refine⟨r1,?_,q1⟩;rw[if_neg (by omega)];exact p1
 ·rw[if_neg h0];obtain⟨r',p2,q3⟩:=high r hR h2;refine⟨r',?_,q3⟩;by_cases h:a<=t.hi
  ·rw[if_pos ⟨by omega,h⟩];rw[if_pos h]at p2;exact p2
  ·rw[if_neg (by omega)];rw[if_neg h]at p2;exact p2
theorem mY{t:A8}{n f:Nat}{mid:List BB}(hbd:B3 rows<=20000)(hs:suf=mid++lab (f+1)::sF)(hf:f+1∉AL sF)(hg:n+2∉AL suf)(hR:Cq r):
  ∃r',Rn rows pk port (endS t (n+1) (n+2) (f+1)++suf) r (if t.neg=true then sF else suf) r'/\Cq r':=by
 unfold endS
 by_cases h:t.neg=true
 ·rw[if_pos h,if_pos h];obtain⟨r1,p1,q1,_⟩:=HD (rows:=rows) (pk:=pk) (port:=port) (r:=r) (suf:=ins CC (f+1)::lab (n+1)::lab (n+2)::suf) hR;refine⟨r1,?_,q1⟩;have e:A9++ [ins CC (f+1),lab (n+1),lab (n+2)]++suf=A9++(ins CC (f+1)::lab (n+1)::lab (n+2)::suf):=by simp
  rw[e];refine p1.trans ?_;have e2:ins CC (f+1)::lab (n+1)::lab (n+2)::suf=ins CC (f+1)::((lab (n+1)::lab (n+2)::mid)++lab (f+1)::sF):=by rw[hs];simp
  rw[e2];exact Jz hbd hf
 ·rw[if_neg h,if_neg h];refine⟨r,?_,hR⟩;have e: [ins CC (n+2),lab (n+1)]++A9++ [ins CC (f+1),lab (n+2)]++suf=ins CC (n+1+1)::(([lab (n+1)]++A9++ [ins CC (f+1)])++lab (n+1+1)::suf):=by simp
  rw[e];exact Jz hbd hg
theorem ZE{t:A8}{n f:Nat}{mid:List BB}(hbd:B3 rows<=20000)(hs:suf=mid++lab (f+1)::sF)(hf:f+1∉AL sF)(hR:Cq r):
  ∃r',Rn rows pk port (GD t n (f+1) suf) r (if t.neg=true then suf else sF) r'/\Cq r':=by
 unfold GD
 by_cases h:t.neg=true
 ·rw[if_pos h,if_pos h];exact⟨r,Rn.lab (n+1),hR⟩
 ·rw[if_neg h,if_neg h];obtain⟨r1,p1,q1,_⟩:=HD (rows:=rows) (pk:=pk) (port:=port) (r:=r) (suf:=ins CC (f+1)::lab (n+2)::suf) hR;refine⟨r1,p1.trans ?_,q1⟩;have e2:ins CC (f+1)::lab (n+2)::suf=ins CC (f+1)::((lab (n+2)::mid)++lab (f+1)::sF):=by rw[hs];simp
  rw[e2];exact Jz hbd hf
theorem en{t:A8}{n f:Nat}{mid:List BB}(hbd:B3 rows<=20000)(hW:KA t)(hb:EA pk)(hport:0<=port)(hs:suf=mid++lab (f+1)::sF)(hf:f+1∉AL sF)(hl:∀x∈AL suf,x<=n\/Eb t n<x)(hR:Cq r):
  ∃r',Rn rows pk port (F0 t (f+1) n++suf) r (if CP t pk port=true then suf else sF) r'/\Cq r':=by
 have hgt:n+2<=Eb t n:=by unfold Eb;split<;>(try split)<;>omega
 have hg:n+2∉AL suf:=λhx=>by have:=hl _ hx;omega
 have hoO:n+1∉AL (GD t n (f+1) suf):=by
  rw[Qs];intro hx;rcases List.mem_cons.1 hx with hx|hx
  ·omega
  ·have:=hl _ hx;omega
 have e:F0 t (f+1) n++suf=A9++(FZ t n++E7 t n (f+1) suf):=by simp[F0,E7,List.append_assoc]
 rw[e]
 obtain⟨r1,p1,q1,_,q8⟩:=HD (rows:=rows) (pk:=pk) (port:=port) (r:=r) (suf:=FZ t n++E7 t n (f+1) suf) hR
 obtain⟨r2,p2,q2,q3⟩:=mX (rows:=rows) (port:=port) (fail:=f+1) hbd hW hb hl q1 q8
 have hlh:=hW.le
 have hl0:=hW.lo0
 have hh64:t.hi<18446744073709551616:=by
  rcases hW.kind with⟨_,_,h⟩|⟨_,_,hz,_,_,_,_,h⟩
  ·omega
  ·have:=Uz hz;omega
 have out:GX t pk port=none->Dl t pk port=none->∃r',Rn rows pk port (A9++(FZ t n++E7 t n (f+1) suf)) r (if CP t pk port=true then suf else sF) r'/\Cq r':=by
  intro hn ha;rw[hn]at p2;obtain⟨r3,p3,q4⟩:=ZE (rows:=rows) (pk:=pk) (port:=port) (t:=t) (n:=n) hbd hs hf q2;refine⟨r3,(p1.trans p2).trans ?_,q4⟩;have eh:CP t pk port=t.neg:=by unfold CP;rw[ha];cases t.neg<;>rfl
  rw[eh];exact p3
 have there:∀v:Int,GX t pk port≠none->Dl t pk port=some v->0<=v->(BY t=true->v<=B2 t.size)->(∃r3,Rn rows pk port (E7 t n (f+1) suf) r2 (EU t (n+1)++(endS t (n+1) (n+2) (f+1)++suf)) r3/\Cq r3/\r3 2= .num v)->∃r',Rn rows pk port (A9++(FZ t n++E7 t n (f+1) suf)) r (if CP t pk port=true then suf else sF) r'/\Cq r':=by
  rintro v hn ha hv0 hvf ⟨r3,p3,q4,q5⟩;have hsome:(GX t pk port).isSome=true:=by cases h:GX t pk port with|none=>exact absurd h hn|some _=>rfl
  rw[hsome,if_pos rfl]at p2;obtain⟨midE,hE⟩:=VA t n (f+1) suf;obtain⟨r4,p4,q6⟩:=ZD (rows:=rows) (pk:=pk) (port:=port) (t:=t) (n:=n) hbd hl0 (by omega) (by omega) hh64 hv0 hvf hE hoO q4 q5;by_cases hin:t.lo<=v/\v<=t.hi
  ·rw[if_pos hin]at p4;obtain⟨r5,p5,q7⟩:=mY (rows:=rows) (pk:=pk) (port:=port) (t:=t) (n:=n) hbd hs hf hg q6;refine⟨r5,(((p1.trans p2).trans p3).trans p4).trans ?_,q7⟩;have eh:(CP t pk port=true)=¬(t.neg=true):=by unfold CP;rw[ha];simp[hin]
   by_cases hneg:t.neg=true
   ·rw[if_neg (by rw[eh];exact λh=>h hneg)];rw[if_pos hneg]at p5;exact p5
   ·rw[if_pos (by rw[eh];exact hneg)];rw[if_neg hneg]at p5;exact p5
  ·rw[if_neg hin]at p4;obtain⟨r5,p5,q7⟩:=ZE (rows:=rows) (pk:=pk) (port:=port) (t:=t) (n:=n) hbd hs hf q6;refine⟨r5,(((p1.trans p2).trans p3).trans p4).trans ?_,q7⟩;have eh:CP t pk port=t.neg:=by unfold CP;rw[ha];simp only[decide_eq_false hin];cases t.neg<;>rfl
   rw[eh];exact p5
 rcases hW.kind with⟨hk,hnb,_⟩|⟨hk,hyb,hz,hp0,hp1,hm1,hm2,_⟩
 ·have hmask:Dm t= []:=by unfold Dm;rw[hnb];rfl
  have htail:E7 t n (f+1) suf=EU t (n+1)++(endS t (n+1) (n+2) (f+1)++suf):=by unfold E7;rw[hmask];rfl
  rcases hk with hk|hk
  ·have e1:GX t pk port=some (pk.length:Int):=by unfold GX;rw[if_pos hk]
   have e2:Dl t pk port=some (pk.length:Int):=by unfold Dl;rw[if_pos hk]
   exact there _ (by rw[e1];simp) e2 (by omega) (λh=>by rw[hnb]at h;cases h) ⟨r2,by rw[htail];exact Rn.refl,q2,q3 _ e1⟩
  ·have hk1:¬t.kind=1:=by omega
   have e1:GX t pk port=some port:=by unfold GX;rw[if_neg hk1,if_pos hk]
   have e2:Dl t pk port=some port:=by unfold Dl;rw[if_neg hk1,if_pos hk]
   exact there _ (by rw[e1];simp) e2 hport (λh=>by rw[hnb]at h;cases h) ⟨r2,by rw[htail];exact Rn.refl,q2,q3 _ e1⟩
 ·have hk1:¬t.kind=1:=by omega
  have hk2:¬t.kind=2:=by omega
  obtain⟨at_,hat⟩:∃at_,(if t.kind=3 then t.pos.toNat else 14+4*((pk.getD 14 0) % 16).toNat+t.pos.toNat)=at_:=⟨_,rfl⟩
  have e1:GX t pk port=if(t.kind=3\/15<=pk.length)/\at_+t.size.toNat<=pk.length then some (Eh (cut pk at_ t.size.toNat))else none:=by
   unfold GX;rw[if_neg hk1,if_neg hk2,←hat]
  have e2:Dl t pk port=if(t.kind=3\/15<=pk.length)/\at_+t.size.toNat<=pk.length then some (DZ (Ho (cut pk at_ t.size.toNat)) t.mask)else none:=by
   unfold Dl;rw[if_neg hk1,if_neg hk2,←hat]
  by_cases hc:(t.kind=3\/15<=pk.length)/\at_+t.size.toNat<=pk.length
  ·rw[if_pos hc]at e1 e2;have hle:=mU (a:=Ho (cut pk at_ t.size.toNat)) (b:=t.mask) (by omega);refine there _ (by rw[e1];simp) e2 hle.1 (λ_=>by omega) ?_;have hzb:1<=t.size:=by rcases hz with h|h|h|h<;>omega
   exact ek (rows:=rows) (pk:=pk) (port:=port) hyb hz hm1 hm2 (by rw[ej hc.2];omega) (mT hb) q2 (q3 _ e1)
  ·rw[if_neg hc]at e1 e2;exact out e1 e2
end Go.Cmp
