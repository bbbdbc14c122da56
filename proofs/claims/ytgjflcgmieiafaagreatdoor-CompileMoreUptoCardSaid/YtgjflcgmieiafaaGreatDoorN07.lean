/- CompileMore answers true: rules behind one that matches say nothing, for any table, other table, packet and port of the stated bulk. Conditions: those of the given row and its card (the variable insn.sizes is laid as its initialiser says; bulk at most 1048576). -/
import Derived.Test.YtgjflcgmieiafaaGreatDoorN06
import Derived.Test.YtgjflcgmieiafaaGreatDoorN05
import Derived.Test.YtgjflcgmieiafaaGreatDoorN04
set_option linter.all false
set_option linter.unusedVariables false
set_option linter.unusedSimpArgs false
namespace Go.Proofs.YtgjflcgmieiafaaGreatDoor
open Go Go.DI Go.DI.Kit Go.Proofs Go.Cmp Go.RowKit
noncomputable section
theorem lL:okB (.cells false gl)/\∀nb,seenB nb (.cells false gl):=by
 constructor
 ·intro v hv;simp only[gl,List.mem_cons,List.not_mem_nil,or_false]at hv;rcases hv with rfl|rfl|rfl|rfl<;>rfl
 ·intro nb v hv;simp only[gl,List.mem_cons,List.not_mem_nil,or_false]at hv;rcases hv with rfl|rfl|rfl|rfl<;>rfl
theorem WA{B0:Nat}{w0 W:World}{ι ι':Ren}{ss ex:List BI}(hs:Go.DI.St B0 w0 ι' (mS gl (ss++ex)) W)(hok:∀s∈ss,okB s/\seenB (1+ss.length) s)(he:∀b,b<1+ss.length->ι' b=ι b)(hf:∀b,1+ss.length<=b->ι b=none):Go.DI.St B0 w0 ι (mS gl ss) W:=by
 have h:=hs.cut (z:=1+ss.length) (by rw[K7,List.length_append];omega) (by omega) (mz:=mS gl ss) (K7 ss) (EJ ss) (λb hb=>?_) (λb hb=>?_)
 ·rw[bC hf he]at h;exact h
 ·rw[Cw,Cw];by_cases h0:b<1
  ·rw[if_pos h0,if_pos h0]
  ·rw[if_neg h0,if_neg h0,List.getElem?_append_left (by omega)]
 ·rw[Cw];by_cases h0:b<1
  ·obtain rfl:b=0:=by omega
   rw[if_pos h0,mG_get];exact⟨lL.1,lL.2 _⟩
  ·rw[if_neg h0];have hb':b - 1<ss.length:=by omega
   rw[List.getElem?_append_left hb',List.getElem?_eq_getElem hb'];exact hok _ (List.getElem_mem hb')
theorem C5{c:List Value}(o:Bool)(h:c.all Dw=true)(nb:Nat):okB (.cells o c)/\seenB nb (.cells o c):=⟨λv hv=>F9 (List.all_eq_true.1 h v hv),λv hv=>Dv (List.all_eq_true.1 h v hv)⟩
theorem MV{v:Value}{nb:Nat}(h1:de v=true)(h2:Go.DI.Kit.seenV nb v=true):okB (.cells true [v])/\seenB nb (.cells true [v]):=⟨λu hu=>by obtain rfl:=List.mem_singleton.1 hu;exact h1,λu hu=>by obtain rfl:=List.mem_singleton.1 hu;exact h2⟩
theorem WB(n nb:Nat)(h:2<=nb):okB (MB n)/\seenB nb (MB n):=by
 constructor
 ·intro u hu;have hu:u∈ [Value.slice none 0 0,A6 1 n]:=hu;simp only[List.mem_cons,List.not_mem_nil,or_false]at hu;rcases hu with rfl|rfl<;>rfl
 ·intro u hu;have hu:u∈ [Value.slice none 0 0,A6 1 n]:=hu;simp only[List.mem_cons,List.not_mem_nil,or_false]at hu;rcases hu with rfl|rfl
  ·rfl
  ·show Nat.blt 1 nb=true;simp[Nat.blt_eq];omega
def qt(l:List B9)(a c:Int):List BI:= [.cells false (AE l),MB l.length,cI 0,cI 0,cI a,cI c, .cells true [A6 1 l.length]]
def oP(l:List B9)(a c:Int):List BI:= [.cells false (AE l),MB l.length,cI 0,cI 0,cI a,cI c, .cells true [A6 1 l.length], .cells true (AW (A5 l) l.length), .cells true [oI (AW (A5 l) l.length).length], .cells true [A6 1 l.length]]
theorem oR(l:List B9)(a c:Int):∀s∈qt l a c,okB s/\seenB (1+(qt l a c).length) s:=by
 intro s hs
 simp only[qt,List.mem_cons,List.not_mem_nil,or_false]at hs
 rcases hs with rfl|rfl|rfl|rfl|rfl|rfl|rfl
 ·exact C5 _ (BR l) _
 ·exact WB _ _ (by show 2<=8;decide)
 ·exact C5 _ rfl _
 ·exact C5 _ rfl _
 ·exact C5 _ rfl _
 ·exact C5 _ rfl _
 ·exact MV rfl rfl
theorem oT(l:List B9)(a c:Int):∀s∈oP l a c,okB s/\seenB (1+(oP l a c).length) s:=by
 intro s hs
 simp only[oP,List.mem_cons,List.not_mem_nil,or_false]at hs
 rcases hs with rfl|rfl|rfl|rfl|rfl|rfl|rfl|rfl|rfl|rfl
 ·exact C5 _ (BR l) _
 ·exact WB _ _ (by show 2<=11;decide)
 ·exact C5 _ rfl _
 ·exact C5 _ rfl _
 ·exact C5 _ rfl _
 ·exact C5 _ rfl _
 ·exact MV rfl rfl
 ·exact bG _ _ _
 ·exact MV rfl rfl
 ·exact MV rfl rfl
theorem LX(l:List B9)(a c:Int):∀s∈qt l a c,∃o c,s= .cells o c:=by
 intro s hs
 simp only[qt,List.mem_cons,List.not_mem_nil,or_false]at hs
 rcases hs with rfl|rfl|rfl|rfl|rfl|rfl|rfl<;>exact⟨_,_,rfl⟩
theorem Ea(l:List B9)(a c:Int):∀s∈oP l a c,∃o c,s= .cells o c:=by
 intro s hs
 simp only[oP,List.mem_cons,List.not_mem_nil,or_false]at hs
 rcases hs with rfl|rfl|rfl|rfl|rfl|rfl|rfl|rfl|rfl|rfl<;>exact⟨_,_,rfl⟩
def WC{l:List B9}(pre:List (Pl l)):Int:=match pre.getLast? with|some x=>(x.1:Int)|none=>0
def WD{l:List B9}(pre:List (Pl l)):Int:=match pre.getLast? with|some x=>K8 l x.1|none=>0
theorem UF{l:List B9}(pre:List (Pl l))(x:Pl l):WC (pre++ [x])=(x.1:Int):=by unfold WC;rw[List.getLast?_append];rfl
theorem Nv{l:List B9}(pre:List (Pl l))(x:Pl l):WD (pre++ [x])=K8 l x.1:=by unfold WD;rw[List.getLast?_append];rfl
theorem oU{n:Nat}(h:0<n):wh n:=by unfold wh;simp[B6,Ba,Bc];omega
theorem bH{a b:Int}(h:a<=b):uY a b:=by unfold uY;simp[B6,Ba,Bc];omega
theorem WE{a b:Int}(h:a≠b):dh a b true:=by unfold dh;simp[B6,Ba,Bc];omega
theorem lM{a b:Int}(h:a=b):dh a b false:=by unfold dh;simp[B6,Ba,Bc];omega
theorem Nw(c op z:Int)(w r:Bool):(Wv c op z w r).all GM=true:=rfl
theorem sW{l:List B9}{own:Bool}{M:Mem}{p:Int}{w:List Value}(ht:M.top)(h0:M.get 0= .cells false gl)(h1:1<M.size)(gc:M.get 1= .cells own (AE l))(h:PR own (AE l) l.length p w)(hw:w.all GM=true):oC l 68 [Es (A6 1 l.length), .int .i64 p] M=some (SQ w,M):=
 QT (oV ht h0 (by omega) h1 (by decide) gc h hw)
theorem lN{l:List B9}{M:Mem}{x:B9}{w:List Value}(ht:M.top)(h0:M.get 0= .cells false gl)(h1:1<=M.size)(h:PS x w)(hw:w.all GM=true):oC l 47 [.agg ⟨AU x⟩] M=some (SQ w,M):=
 QT (oY ht h0 h1 h hw)
theorem sX{l:List B9}{own:Bool}{M:Mem}(ht:M.top)(h0:M.get 0= .cells false gl)(h1:1<M.size)(gc:M.get 1= .cells own (AE l)):oC l 69 [A6 1 l.length] M=some (.slice (some ⟨M.size,0,none⟩) l.length l.length,M.push (.cells true (AW (A5 l) l.length))):=by
 unfold oC
 rw[Je (MU (by decide) (by decide) (by decide) _ _)]
 exact if_pos ⟨rfl,rfl,⟨own,gc⟩,WG ht h0 (by omega) h1 (by decide) gc⟩
def yE:Oper:={dst:=some 8,op:= .assign (.tmp 48),type:=3,pos:= "shape.go:94",after:= #[],guard:=none}
def yF:Oper:={dst:=some 12,op:= .assign (.tmp 68),type:=3,pos:= "shape.go:102",after:= #[],guard:=none}
theorem oZ:Hj 13= #[yE]:=by kernel_rfl
theorem o5:Hj 20= #[yF]:=by kernel_rfl
theorem UG(l:List B9)(a c:Int):(Q2 (AE l) l.length a c).get 0= .cells false gl/\(Q2 (AE l) l.length a c).get 1= .cells false (AE l)/\(Q2 (AE l) l.length a c).get 7= .cells true [A6 1 l.length]/\(Q2 (AE l) l.length a c).size=8:=⟨by kernel_rfl,by kernel_rfl,by kernel_rfl,by kernel_rfl⟩
theorem bI(l:List B9)(a c:Int)(y:List Value):(Kh (AE l) l.length a c y).get 0= .cells false gl/\(Kh (AE l) l.length a c y).get 1= .cells false (AE l)/\(Kh (AE l) l.length a c y).get 10= .cells true [A6 1 l.length]/\(Kh (AE l) l.length a c y).size=11:=⟨by kernel_rfl,by kernel_rfl,by kernel_rfl,by kernel_rfl⟩
section
variable{B0:Nat}{w0 W:World}{ι:Ren}{l:List B9}{x1:Nat->Value}{a1:Act}
theorem wj(hS:DY l)(x:Pl l){k d:Nat}{a c:Int}(hs:Go.DI.St B0 w0 ι (Q2 (AE l) l.length a c) W) (ht:Be ι 116 (AB 116 (up x1 (MC++ [(8, .int .i64 (x.1:Int))]))) a1) {Q:Exit->Act->World->Prop} (hx:¬LetsOut Q)
  (hQ:∀a' W',FC W W'->Go.DI.St B0 w0 ι (Q2 (AE l) l.length (x.1:Int) (K8 l x.1)) W'->Q .normal a' W'):bE.wpIn (FR k) d Tryz.prog Q a1 W:=by
 obtain⟨g0,g1,_,gz⟩:=UG l a c
 obtain⟨op,z,w,r,hal⟩:=oO hS x.2
 have hrun:=wi x1 (oC l) (AE l) l.length a c (x.1:Int) (K8 l x.1) op z w r
 refine GO Bu hK Ed (HP hS B0) FM HQ FN (by kernel_rfl) hrun.1 hrun.2 (AA (sW (EJ _) g0 (by rw[gz];decide) g1 hal (Nw ..)) AT) hs (Cx (LX l a c)) ht hx λι5 a5 W5 t5 hs5 ht5 hv5 hd5 hk5 hkp5=>?_
 exact hQ a5 W5 hkp5 (WA (ss:=qt l (x.1:Int) (K8 l x.1)) (ex:= [.cells true (Wv (K8 l x.1) op z w r)]) hs5 (oR l _ _) (λb hb=>hk5 b (by rw[gz];exact hb)) (λb hb=>hs.fresh b (by rw[gz];exact hb)))
theorem wk(hS:DY l)(x:Pl l){k d:Nat}{a c:Int} (hs:Go.DI.St B0 w0 ι (Kh (AE l) l.length a c (AW (A5 l) l.length)) W) (ht:Be ι 116 (AB 116 (up x1 (MC++ [(11,BP 9 0),(12, .int .i64 (x.1:Int))]))) a1) {Q:Exit->Act->World->Prop} (hx:¬LetsOut Q)
  (hQ:∀a' W',FC W W'->Go.DI.St B0 w0 ι (Kh (AE l) l.length a c (AW (A5 l) l.length)) W'->Q .normal a' W'):PO.wpIn (FR k) d Tryz.prog Q a1 W:=by
 obtain⟨g0,g1,_,gz⟩:=bI l a c (AW (A5 l) l.length)
 have hm:=hS.most
 have hfin:∀(ex:List BI) (ι5:Ren) (a5:Act) (W5:World),Go.DI.St B0 w0 ι5 (mS gl (oP l a c++ex)) W5->(∀b,b< (Kh (AE l) l.length a c (AW (A5 l) l.length)).size->ι5 b=ι b)->FC W W5->Q .normal a5 W5:=λex ι5 a5 W5 hs5 hk5 hkp5=>
  hQ a5 W5 hkp5 (WA (ss:=oP l a c) (ex:=ex) hs5 (oT l _ _) (λb hb=>hk5 b (by rw[gz];exact hb)) (λb hb=>hs.fresh b (by rw[gz];exact hb)))
 have nojump:∀(y:B9) (cl op z:Int) (w r:Bool),l[x.1]?=some y->PS y (Wv cl op z w r)->cl≠6->cl≠7->PO.wpIn (FR k) d Tryz.prog Q a1 W:=λy cl op z w r h1 hof n6 n7=>by
  have hrun:=sR x1 (oC l) (AE l) (AU y) (AW (A5 l) l.length) l.length a c (x.1:Int) cl op z w r;exact GO Bu hK Ed (HP hS B0) FM HQ FN (by kernel_rfl) hrun.1 hrun.2 (AA (Cc h1) (AA (Cd h1) (AA (lN (EJ _) g0 (by rw[gz];decide) hof (Nw ..)) (AA (WE n6) (AA (WE n7) AT))))) hs (Cx (Ea l a c)) ht hx λι5 a5 W5 t5 hs5 ht5 hv5 hd5 hk5 hkp5=>hfin [.cells true (Wv cl op z w r)] ι5 a5 W5 hs5 hk5 hkp5
 rcases hS.found x.1 x.2 with⟨y,hy,h1⟩|⟨y,o,q,hq,hy,h1,ho1,ho2,hqe⟩|⟨n,h1,h2⟩
 ·obtain⟨op,z,w,r,hf,n6,n7⟩:=lJ hy;exact nojump y _ op z w r h1 hf.of n6 n7
 ·obtain⟨op,z,w,r,hf,h67⟩:=lK (o:=o) hy;have hql:q<l.length:=Iz hq;have hpl:x.1<l.length:=Iz x.2
  have ht0:Vp (x.1:Int) o=(q:Int):=by
   unfold Vp;have e1:IntKind.wrap .i64 (Int.add (x.1:Int) 1)=((x.1+1:Nat):Int):=UH (by omega);have e2:IntKind.wrap .i64 o=o:=wrap_i64 ⟨by omega,by omega⟩;rw[e1,e2]
   have e3:Int.add ((x.1+1:Nat):Int) o=(q:Int):=by
    show((x.1+1:Nat):Int)+o=q;omega
   rw[e3];exact wrap_i64 ⟨by omega,by omega⟩
  have hy':AU (BJ y o)=K6 (BJ y o).op (BJ y o).dst (BJ y o).src o (BJ y o).imm:=rfl;have hixp:=Cc h1;have hldp:=Cd h1;have hofr:PS (BJ y o) (Wv (CW (BJ y o).op) op z w r):=hf.of;have hcall:=lN (l:=l) (M:=Kh (AE l) l.length a c (AW (A5 l) l.length)) (EJ _) g0 (by rw[gz];decide) hofr (Nw ..);rw[hy']at hldp hcall;have hlen:(AW (A5 l) l.length).length=l.length:=Gc _ _
  have tail:∀q'∈ [IV (x.1:Int) l.length,Jo (AE l) (x.1:Int) (K6 (BJ y o).op (BJ y o).dst (BJ y o).src o (BJ y o).imm),uZ (Vp (x.1:Int) o),u0 (Vp (x.1:Int) o) (AW (A5 l) l.length).length,IV (Vp (x.1:Int) o) (AW (A5 l) l.length).length,qB (AW (A5 l) l.length) (Vp (x.1:Int) o)],q':=by
   refine AA hixp (AA hldp (AA ?_ (AA ?_ (AA ?_ (AA ?_ AT)))))
   ·rw[ht0];unfold uZ;simp[B6,Ba,Bc] <;>omega
   ·rw[ht0,hlen];unfold u0;simp[B6,Ba,Bc] <;>omega
   ·rw[ht0,hlen];exact⟨by omega,by omega⟩
   ·rw[ht0];show H.blkNth (.cells true (AW (A5 l) l.length)) (Nat.add 0 (Nat.mul (q:Int).toNat 1))=some (.bool true)
    have e:Nat.add 0 (Nat.mul (q:Int).toNat 1)=q:=by
     show 0+(q:Int).toNat*1=q;simp
    rw[e];show(AW (A5 l) l.length)[q]?=_;rw[Gd,if_pos hql];simp[hq]
  rcases h67 with h6|h7
  ·have hrun:=sU x1 (oC l) (AE l) (AW (A5 l) l.length) l.length a c (x.1:Int) (CW (BJ y o).op) op z (BJ y o).op (BJ y o).dst (BJ y o).src o (BJ y o).imm w r;exact GO Bu hK Ed (HP hS B0) FM HQ FN (by kernel_rfl) hrun.1 hrun.2 (AA hixp (AA hldp (AA hcall (AA (lM h6) tail)))) hs (Cx (Ea l a c)) ht hx λι5 a5 W5 t5 hs5 ht5 hv5 hd5 hk5 hkp5=>hfin [.cells true (Wv (CW (BJ y o).op) op z w r), .cells true (K6 (BJ y o).op (BJ y o).dst (BJ y o).src o (BJ y o).imm)] ι5 a5 W5 hs5 hk5 hkp5
  ·have hrun:=sV x1 (oC l) (AE l) (AW (A5 l) l.length) l.length a c (x.1:Int) (CW (BJ y o).op) op z (BJ y o).op (BJ y o).dst (BJ y o).src o (BJ y o).imm w r;exact GO Bu hK Ed (HP hS B0) FM HQ FN (by kernel_rfl) hrun.1 hrun.2 (AA hixp (AA hldp (AA hcall (AA (WE (by rw[h7];decide)) (AA (lM h7) tail))))) hs (Cx (Ea l a c)) ht hx λι5 a5 W5 t5 hs5 ht5 hv5 hd5 hk5 hkp5=>hfin [.cells true (Wv (CW (BJ y o).op) op z w r), .cells true (K6 (BJ y o).op (BJ y o).dst (BJ y o).src o (BJ y o).imm)] ι5 a5 W5 hs5 hk5 hkp5
 ·exact nojump _ 10 0 0 false false h1 Nu.1 (by decide) (by decide)
end
theorem GC{ss:List BI}(h:ss.all (λb=>match b with| .cells _ _=>true|_=>false)=true):∀s∈ss,∃o c,s=BI.cells o c:=by
 intro s hs
 have:=List.all_eq_true.1 h s hs
 cases s<;>simp at this
 exact⟨_,_,rfl⟩
theorem bJ{B0:Nat}{own:Bool}{l:List B9}(hS:DY l):EI Tryz.prog B0 1 45 [Es (A6 1 l.length)] (mS gl [.cells own (AE l)]) (.tuple ⟨[.int .i64 0, .int .i64 0]⟩) (mS gl [.cells own (AE l)]):=by
 intro ι w args' hr hf hargs
 have hm:=hS.most
 have hpos:0<l.length:=List.length_pos_iff.2 hS.pos
 obtain⟨ι0,hι0⟩:∃ι0,(ι.sub id λi=>Nat.blt i (1+ [BI.cells false (AE l)].length))=ι0:=⟨_,rfl⟩
 have hno:∀b,2<=b->ι0 b=none:=λb hb=>by
  rw[←hι0];show(if Nat.blt b 2=true then ι b else none)=none;rw[if_neg (by simp[Nat.blt_eq];omega)]
 have hr0:Rel B0 1 ι0 (uX (AE l)) w:=by
  rw[←hι0];exact WH (S1 hr) (λs hs=>by obtain rfl:=List.mem_singleton.1 hs;exact C5 _ (BR l) _)
 have hs0:Go.DI.St B0 w ι0 (uX (AE l)) w:=⟨hr0,λb hb=>hno b hb,Below.refl _ _,λb L hL ho=>by
  exfalso;unfold uX at ho;rw[Cw]at ho;split at ho
  ·rename_i h0;obtain rfl:b=0:=by omega
   rw[mG_get]at ho;cases ho
  ·rcases hj:b - 1 with _|j
   ·rw[hj]at ho;cases ho
   ·rw[hj]at ho;have ho:((mG gl).get b).own=true:=ho;rw[mG_top gl b (by rw[mG_size];omega)]at ho;cases ho⟩
 have hargs0:Bb ι0 [Es (A6 1 l.length)] args':=by
  cases hargs with
  |cons h t=>
   cases t;refine .cons ?_ .nil;have h1:QH id (λi=>Nat.blt i 2) (Es (A6 1 l.length)) (Es (A6 1 l.length)):=KN (.cons ((EB _ _).sim _ _) (.cons (EC (ρ:=id) (i:=1) rfl) .nil));rw[←hι0];exact h1 ι _ h
 have hst:=LN (nt:=116) hargs0
 have e0:AB 116 (Bv [Es (A6 1 l.length)])=AB 116 (up (Bv [Es (A6 1 l.length)]) [(0,Es (A6 1 l.length))]):=by rw[up_self _ _ (by intro q hq;obtain rfl:=List.mem_singleton.1 hq;rfl)]
 have hst:Be ι0 116 (AB 116 (up (Bv [Es (A6 1 l.length)]) [(0,Es (A6 1 l.length))])) {tmps:=args'.toArray++Array.replicate (Tryz.f45.ntmps - args'.toArray.size) undef,defers:= []}:=by
  rw[←e0];exact hst
 refine(callsIn_wide (n:=1)).1 (callsIn_of_wp_marks wZ wb trivial ?_ rfl)
 rw[oH]
 refine wpIn_seq (D4 Bu hK Ed (HP hS B0) FM HQ FN (sQ _ (oC l) (AE l) l.length).1 (sQ _ (oC l) (AE l) l.length).2 AT hs0 (Cx (GC rfl)) hst λι1 a1 W1 t1 hs1 ht1 hv1 hd1 _ hkp1=>?_)
 simp only[Ex.to,Exit.then]
 obtain⟨x1,hx1⟩:=ht1.full _ (Ga hv1)
 refine wpIn_seq (D4 Bu hK Ed (HP hS B0) FM HQ FN (lB x1 (oC l) (AE l) l.length).1 (lB x1 (oC l) (AE l) l.length).2 (AA (oU hpos) (AA (bH (by show(l.length:Int)<=512;omega)) (AA (bH (by decide)) AT))) hs1 (Cx (GC rfl)) hx1 λι2 a2 W2 t2 hs2 ht2 hv2 hd2 _ hkp2=>?_)
 simp only[Ex.to,Exit.then]
 obtain⟨x2,hx2⟩:=ht2.full _ (Ga hv2)
 refine wpIn_seq (D4 Bu hK Ed (HP hS B0) FM HQ FN (lC x2 (oC l) (AE l) l.length).1 (lC x2 (oC l) (AE l) l.length).2 AT hs2 (Cx (GC rfl)) hx2 λι3 a3 W3 t3 hs3 ht3 hv3 hd3 _ hkp3=>?_)
 simp only[Ex.to,Exit.then]
 obtain⟨x3,hx3⟩:=ht3.full _ (Ga hv3)
 refine wpIn_seq (D4 Bu hK Ed (HP hS B0) FM HQ FN (lD x3 (oC l) (AE l) l.length).1 (lD x3 (oC l) (AE l) l.length).2 AT hs3 (Cx (GC rfl)) hx3 λι4 a4 W4 t4 hs4 ht4 hv4 hd4 _ hkp4=>?_)
 simp only[Ex.to,Exit.then]
 obtain⟨x4,hx4⟩:=ht4.full MC (Ga hv4)
 refine wpIn_seq (wpIn_seq (D4 Bu hK Ed (HP hS B0) FM HQ FN (lF x4 (oC l) (AE l) l.length 0 0).1 (lF x4 (oC l) (AE l) l.length 0 0).2 AT hs4 (Cx (GC rfl)) hx4 λι5 a5 W5 t5 hs5 ht5 hv5 hd5 _ hkp5=>?_))
 simp only[Ex.to,Exit.then]
 have hat5:=Ga hv5
 have h47:t5.at 47=Q3 7:=hat5 (47,Q3 7) (by simp[lE])
 have hkn5:∀p∈MC,t5.at p.1=p.2:=λp hp=>hat5 p (by
  simp only[MC,List.mem_cons,List.not_mem_nil,or_false]at hp;rcases hp with rfl|rfl|rfl|rfl|rfl<;>simp[lE])
 obtain⟨Lb,hLb,hfun⟩:=Q5 ht5 h47
 have hrel93:∀(a c:Int) (W:World),Go.DI.St B0 w ι5 (Q2 (AE l) l.length a c) W->Rel B0 1 (i93 ι5 7) (Hn (AE l) l.length) W:=λa c W h=>by
  obtain⟨g0,g1,g7,gz⟩:=UG l a c;exact bK h (by rw[gz];decide) (by rw[gz];decide) (by decide) g0 g1 g7
 have hi2:i93 ι5 7 2=some Lb:=by rw[Jq ι5 7 2 (by decide)];exact hLb
 have hsz5:∀p,p<116->p<a5.tmps.size:=λp hp=>by rw[ht5.1];exact hp
 refine wpIn_block (Nh (m0:=Q2 (AE l) l.length 0 0) (ι:=ι5) hs5 (Ds:= []) (λD hD=>by simp at hD) (by decide) hfun (enters_of iU (by kernel_rfl) iV) (Jr (hrel93 0 0 W5 hs5) hi2 hS) (λh k=>bL h k) (λW k o o' _ hk hno' _=>bM W k o o' hk hno') (λx=>rfl)
  (λpre=>Q2 (AE l) l.length (WC pre) (WD pre)) rfl (λpre b hb=>GU (LX l _ _) b hb)
  (λx=>({tmps:=a5.tmps.setIfInBounds 48 (.int .i64 (x.1:Int)),defers:= []}:Act).put (some 8) (.int .i64 (x.1:Int))) ?_ ?_ (λpre W W' h _=>hrel93 _ _ W' h) ?_)
 ·intro k x W K' hK';rw[oZ];refine Jg (op:=yE) (x:= .tmp 48) rfl rfl ?_;have ez:((#[48]:Array Tmp).zip (S2 l x)).foldl (λt (p,v)=>t.setIfInBounds p v) a5.tmps=a5.tmps.setIfInBounds 48 (.int .i64 (x.1:Int)):=by simp[S2]
  rw[ez]
  have:({tmps:=a5.tmps.setIfInBounds 48 (.int .i64 (x.1:Int)),defers:= []}:Act).eval (.tmp 48)= .int .i64 (x.1:Int):=by
   show(a5.tmps.setIfInBounds 48 (.int .i64 (x.1:Int))).getD 48 undef=_;rw[D9,if_pos ⟨rfl,hsz5 48 (by decide)⟩]
  rw[this];exact hK'
 ·intro k pre x W Q' hx' hst' hQ'
  have ht6:Be ι5 116 ((t5.set 48 (.int .i64 (x.1:Int))).set 8 (.int .i64 (x.1:Int))) ((({tmps:=a5.tmps.setIfInBounds 48 (.int .i64 (x.1:Int)),defers:= []}:Act)).put (some 8) (.int .i64 (x.1:Int))):=
   Be.putD (n:=116) (dst:=some 8) (Be.setI (N:=116) ht5 (by decide) (.int _ _)) rfl (.int _ _)
  obtain⟨x6,hx6⟩:=ht6.full (MC++ [(8, .int .i64 (x.1:Int))]) (by
   intro q hq;rcases List.mem_append.1 hq with hq|hq
   ·have hne:q.1≠8/\q.1≠48:=by
     simp only[MC,List.mem_cons,List.not_mem_nil,or_false]at hq;rcases hq with rfl|rfl|rfl|rfl|rfl<;>exact⟨by simp,by simp⟩
    rw[AF.at_set_ne _ hne.1,AF.at_set_ne _ hne.2];exact hkn5 q hq
   ·obtain rfl:=List.mem_singleton.1 hq;exact AF.at_set_same _ _ _)
  refine wj hS x hst' hx6 hx' λa' W' hk hst2=>hQ' a' W' hk ?_;rw[UF,Nv];exact hst2
 ·intro D1 xs W hD1 hxs hst' hmk;have hxs:xs.map Subtype.val=A5 l:=hxs;obtain⟨init,pz,hl1,hl2⟩:=hS.last
  have hlast:∃a,WD xs=9/\WC xs=a:=by
   refine⟨_,?_,rfl⟩;have hxs2:=hxs.trans hl1;have hne:xs≠ []:=by rintro rfl;simp at hxs2
   obtain⟨ys,z,rfl⟩:∃ys z,xs=ys++ [z]:=⟨xs.dropLast,xs.getLast hne,(List.dropLast_concat_getLast hne).symm⟩;rw[Nv];rw[List.map_append]at hxs2
   have hz:z.1=pz:=by
    have:=congrArg List.getLast? hxs2;rw[List.getLast?_append,List.getLast?_append]at this;simpa using this
   rw[hz,K9 hl2];rfl
  obtain⟨aa,hc9,haa⟩:=hlast;rw[hc9,haa]at hst';simp only[Exit.inBlock,Exit.then];have ht7:Be ι5 116 t5 {a5 with defers:={target:= .collected D1,args:= #[]}::a5.defers}:=ht5;obtain⟨x7,hx7⟩:=ht7.full MC hkn5;obtain⟨g30,g31,g37,g3z⟩:=UG l aa 9;have hylen:(AW (A5 l) l.length).length=l.length:=Gc _ _
  have hst69:oC l 69 [A6 1 l.length] (Q2 (AE l) l.length aa 9)=some (oI (AW (A5 l) l.length).length,(Q2 (AE l) l.length aa 9).push (.cells true (AW (A5 l) l.length))):=by
   rw[sX (own:=false) (M:=Q2 (AE l) l.length aa 9) (EJ _) g30 (by rw[g3z];decide) g31,g3z,hylen];rfl
  refine wpIn_seq (D4 Bu hK Ed (HP hS B0) FM HQ FN (lG x7 (oC l) (AE l) (AW (A5 l) l.length) l.length aa 9).1 (lG x7 (oC l) (AE l) (AW (A5 l) l.length) l.length aa 9).2 (AA hst69 AT) hst' (Cx (LX l aa 9)) hx7 λι8 a8 W8 t8 hs8 ht8 hv8 hd8 _ hkp8=>?_);simp only[Ex.to,Exit.then];obtain⟨x8,hx8⟩:=ht8.full (MC++ [(11,BP 9 0)]) (Ga hv8);refine wpIn_seq (wpIn_seq (D4 Bu hK Ed (HP hS B0) FM HQ FN (lH x8 (oC l) (AE l) (AW (A5 l) l.length) l.length aa 9).1 (lH x8 (oC l) (AE l) (AW (A5 l) l.length) l.length aa 9).2 AT hs8 (Cx (GC rfl)) hx8 λι9 a9 W9 t9 hs9 ht9 hv9 hd9 _ hkp9=>?_));simp only[Ex.to,Exit.then];have hat9:=Ga hv9;have h67:t9.at 67=Q3 10:=hat9 (67,Q3 10) (by simp[lE])
  have hkn9:∀p∈MC++ [(11,BP 9 0)],t9.at p.1=p.2:=λp hp=>hat9 p (by
   simp only[MC,List.cons_append,List.nil_append,List.mem_cons,List.not_mem_nil,or_false]at hp;rcases hp with rfl|rfl|rfl|rfl|rfl|rfl<;>simp[lE])
  obtain⟨Lb9,hLb9,hfun9⟩:=Q5 ht9 h67
  have hrel9:∀(W:World),Go.DI.St B0 w ι9 (Kh (AE l) l.length aa 9 (AW (A5 l) l.length)) W->Rel B0 1 (i93 ι9 10) (Hn (AE l) l.length) W:=λW h=>by
   obtain⟨g0,g1,g7,gz⟩:=bI l aa 9 (AW (A5 l) l.length);exact bK h (by rw[gz];decide) (by rw[gz];decide) (by decide) g0 g1 g7
  have hi9:i93 ι9 10 2=some Lb9:=by rw[Jq ι9 10 2 (by decide)];exact hLb9
  have hsz9:∀p,p<116->p<a9.tmps.size:=λp hp=>by rw[ht9.1];exact hp
  have hmk9:Marks [D1] W9:=(hmk.keeps hkp8).keeps hkp9
  refine wpIn_block (Nh (m0:=Kh (AE l) l.length aa 9 (AW (A5 l) l.length)) (ι:=ι9) hs9 (Ds:= [D1]) hmk9 (by decide) hfun9 (enters_of iU (by kernel_rfl) iV) (Jr (hrel9 W9 hs9) hi9 hS) (λh k=>bL h k) (λW k o o' _ hk hno' _=>bM W k o o' hk hno') (λx=>rfl)
   (λ_=>Kh (AE l) l.length aa 9 (AW (A5 l) l.length)) rfl (λpre b hb=>GU (Ea l _ _) b hb)
   (λx=>({tmps:=a9.tmps.setIfInBounds 68 (.int .i64 (x.1:Int)),defers:= []}:Act).put (some 12) (.int .i64 (x.1:Int))) ?_ ?_ (λpre W W' h _=>hrel9 W' h) ?_)
  ·intro k x W K' hK';rw[o5];refine Jg (op:=yF) (x:= .tmp 68) rfl rfl ?_;have ez:((#[68]:Array Tmp).zip (S2 l x)).foldl (λt (p,v)=>t.setIfInBounds p v) a9.tmps=a9.tmps.setIfInBounds 68 (.int .i64 (x.1:Int)):=by simp[S2]
   rw[ez]
   have:({tmps:=a9.tmps.setIfInBounds 68 (.int .i64 (x.1:Int)),defers:= []}:Act).eval (.tmp 68)= .int .i64 (x.1:Int):=by
    show(a9.tmps.setIfInBounds 68 (.int .i64 (x.1:Int))).getD 68 undef=_;rw[D9,if_pos ⟨rfl,hsz9 68 (by decide)⟩]
   rw[this];exact hK'
  ·intro k pre x W Q' hx' hst2 hQ'
   have ht6:Be ι9 116 ((t9.set 68 (.int .i64 (x.1:Int))).set 12 (.int .i64 (x.1:Int))) ((({tmps:=a9.tmps.setIfInBounds 68 (.int .i64 (x.1:Int)),defers:= []}:Act)).put (some 12) (.int .i64 (x.1:Int))):=
    Be.putD (n:=116) (dst:=some 12) (Be.setI (N:=116) ht9 (by decide) (.int _ _)) rfl (.int _ _)
   obtain⟨x6,hx6⟩:=ht6.full (MC++ [(11,BP 9 0),(12, .int .i64 (x.1:Int))]) (by
    intro q hq;have hq:q∈(MC++ [(11,BP 9 0)])++ [(12, .int .i64 (x.1:Int))]:=by simpa using hq
    rcases List.mem_append.1 hq with hq|hq
    ·have hne:q.1≠12/\q.1≠68:=by
      simp only[MC,List.cons_append,List.nil_append,List.mem_cons,List.not_mem_nil,or_false]at hq;rcases hq with rfl|rfl|rfl|rfl|rfl|rfl<;>exact⟨by simp,by simp⟩
     rw[AF.at_set_ne _ hne.1,AF.at_set_ne _ hne.2];exact hkn9 q hq
    ·obtain rfl:=List.mem_singleton.1 hq;exact AF.at_set_same _ _ _)
   exact wk hS x hst2 hx6 hx' hQ'
  ·intro D2 xs2 W' hD2 _ hst2 hmk2;simp only[Exit.inBlock,Exit.then];have ht10:Be ι9 116 t9 {a9 with defers:={target:= .collected D2,args:= #[]}::a9.defers}:=ht9;obtain⟨x10,hx10⟩:=ht10.full MC (λp hp=>hkn9 p (List.mem_append_left _ hp));refine wpIn_seq (D4 Bu hK Ed (HP hS B0) FM HQ FN (sS x10 (oC l) (AE l) (AW (A5 l) l.length) l.length aa).1 (sS x10 (oC l) (AE l) (AW (A5 l) l.length) l.length aa).2 (AA (WE (by decide)) AT) hst2 (Cx (Ea l _ _)) hx10 λι11 a11 W11 t11 hs11 ht11 hv11 hd11 _ hkp11=>?_);simp only[Ex.to,Exit.then];obtain⟨x11,hx11⟩:=ht11.full MC (Ga hv11);refine wpIn_seq (D4 Bu hK Ed (HP hS B0) FM HQ FN (lI x11 (oC l) (AE l) (AW (A5 l) l.length) l.length aa 9).1 (lI x11 (oC l) (AE l) (AW (A5 l) l.length) l.length aa 9).2 AT hs11 (Cx (Ea l _ _)) hx11 λι12 a12 W12 t12 hs12 ht12 hv12 hd12 _ hkp12=>?_);simp only[Ex.to,Exit.then];refine wpIn_ret ?_;have hmk12:Marks [D2,D1] W12:=(hmk2.keeps hkp11).keeps hkp12
   have hde:a12.defers= [{target:= .collected D2,args:= #[]},{target:= .collected D1,args:= #[]}]:=by
    rw[hd12,hd11];show _::a9.defers=_;rw[hd9,hd8];show _::_::a5.defers=_;rw[hd5,hd4,hd3,hd2,hd1]
   have hm2:=hmk12 D2 (by simp);have hm1:=hmk12 D1 (by simp);have hD1lt:D1<W9.heap.size:=(Array.getElem?_eq_some_iff.1 (hmk9 D1 (by simp))).1;have hne:D1≠D2:=by omega
   obtain⟨W13,hW13⟩:∃W13,W12.putObj D2 (.deferred none)=W13:=⟨_,rfl⟩;have hm1':W13.heap[D1]?=some (.deferred (some [])):=by rw[←hW13];exact(World.putObj_heap_other hne).trans hm1
   obtain⟨W14,hW14⟩:∃W14,W13.putObj D1 (.deferred none)=W14:=⟨_,rfl⟩
   have hs13:Go.DI.St B0 w ι12 (Kh (AE l) l.length aa 9 (AW (A5 l) l.length)) W13:=by
    rw[←hW13]
    exact hs12.grown (λb hb=>GU (Ea l _ _) b hb) (B:=w.heap.size) (Nat.le_refl _) (grownBy_putObj' W12 D2 _) (λr e=>by
     cases e;exact⟨Nat.le_trans hs9.below.size hD2,_,hm2,rfl⟩)
   have hs14:Go.DI.St B0 w ι12 (Kh (AE l) l.length aa 9 (AW (A5 l) l.length)) W14:=by
    rw[←hW14]
    exact hs13.grown (λb hb=>GU (Ea l _ _) b hb) (B:=w.heap.size) (Nat.le_refl _) (grownBy_putObj' W13 D1 _) (λr e=>by
     cases e;exact⟨Nat.le_trans hs5.below.size hD1,_,hm1',rfl⟩)
   obtain⟨x12,hx12⟩:=ht12.full [(2,BP 3 0),(3,BP 4 0)] (Ga hv12);have hres:DK Tryz.prog (AB 116 (up x12 [(2,BP 3 0),(3,BP 4 0)])) (Kh (AE l) l.length aa 9 (AW (A5 l) l.length)) Tryz.f45.results.toList=some [.int .i64 0, .int .i64 0]:=by kernel_rfl
   obtain⟨v',q1,q2⟩:=H2 (P:=Tryz.prog) hs14.rel hx12 hres;show LeavesInM Fence.wide 1 Tryz.prog Tryz.f45 a12.tmps _ a12.defers .returning W12;rw[hde];refine⟨by simp, .inl ⟨D2,W13,rfl,by rw[←hW13];exact run_takeDeferred hm2,by simp, .inl ⟨D1,W14,rfl,by rw[←hW14];exact run_takeDeferred hm1',v',q1,?_⟩⟩⟩;have hb14:Below w.heap.size w W14:=hs14.below;refine⟨v',ι,rfl,?_,PI hr hb14,⟨λ_ _ h=>h,λ_ _=>rfl,hb14.os,hb14.output,hb14.tape,hb14.size,λB hB _=>hb14.block B hB,λb L h1 h2=>by omega,Nat.le_refl _,λb _ h=>h⟩⟩
   have hfree:Free (.tuple ⟨[.int .i64 0, .int .i64 0]⟩):=FD (by
    intro x hx;have hx:x∈ [Value.int .i64 0,Value.int .i64 0]:=hx;simp only[List.mem_cons,List.not_mem_nil,or_false]at hx;rcases hx with rfl|rfl<;>exact Cn _ _)
   exact hfree _ _ _ q2
theorem Lo:E3:=by
 intro B0 b own l M gb hS hF
 have hb:=hF.lt b (by simp)
 have hb0:b≠0:=λe=>hF.nz (by rw[e];simp)
 have hA:∀i:Nat,Nat.blt i 2=true->i=0\/i=1:=λi hi=>by
  have:i<2:=by simpa[Nat.blt_eq]using hi
  omega
 have k0:(mS gl [.cells own (AE l)]).get 0= .cells false gl:=by rw[Cw,if_pos (by decide),mG_get]
 have k1:(mS gl [.cells own (AE l)]).get 1= .cells own (AE l):=by rw[Cw];rfl
 have r0:DV [b] M 0=0:=rfl
 have r1:DV [b] M 1=b:=rfl
 have hren:Gm (DV [b] M) (.cells own (AE l))=M.get b:=by
  rw[gb];show BI.cells own _=_;rw[CZ (BR l)]
 refine aD (ρ:=DV [b] M) (A:=λi=>Nat.blt i 2) 1 (λg hg=>⟨hg,by
  obtain rfl:g=0:=by omega
  rfl,by
   obtain rfl:g=0:=by omega
   rfl⟩) (bJ (own:=own) hS) ⟨λi hi=>?_,EL.refl _,EJ _,hF.top,λi hi=>?_,λi j hi hj _ _ e=>?_,rfl,λi hi=>?_,λi hi=>?_,λ_ _ _=>rfl⟩ (.cons ?_ .nil) ?_
 ·rw[K7];rcases hA i hi with rfl|rfl<;>simp
 ·rcases hA i hi with rfl|rfl
  ·rw[r0];omega
  ·rw[r1];exact hb
 ·rcases hA i hi with rfl|rfl<;>rcases hA j hj with rfl|rfl
  ·rfl
  ·rw[r0,r1]at e;omega
  ·rw[r0,r1]at e;omega
  ·rfl
 ·rcases hA i hi with rfl|rfl
  ·rw[k0,r0,hF.gl0];exact FG CO
  ·rw[k1,r1,←hren];exact bsim_ren (nb:=2) (C5 own (BR l) 2).1 (C5 own (BR l) 2).2
 ·rcases hA i hi with rfl|rfl
  ·rw[k0,r0,hF.gl0];exact NO CO
  ·rw[k1,r1,←hren];exact Oy (nb:=2) (C5 own (BR l) 2).1 (C5 own (BR l) 2).2
 ·exact KN (.cons ((EB _ _).sim _ _) (.cons (EC (ρ:=DV [b] M) (i:=1) rfl) .nil))
 ·exact(FD (by
   intro x hx;have hx:x∈ [Value.int .i64 0,Value.int .i64 0]:=hx;simp only[List.mem_cons,List.not_mem_nil,or_false]at hx;rcases hx with rfl|rfl<;>exact Cn _ _):Free _).embA _ _
end
end Go.Proofs.YtgjflcgmieiafaaGreatDoor
namespace Go.Proofs.YtgjflcgmieiafaaGreatDoor
open Go Go.DI Go.DI.Kit Go.Proofs Go.Cmp
noncomputable section
noncomputable def oL(k:Nat):C1:=λf a M=>
 if f=5\/f=6\/f=7\/f=8 then AJ Tryz.prog kp 1 oQ k f a M
 else if f=9 then bn f a M
 else if f=10 then Cu Tryz.prog kp 1 UW 600 f a M
 else if f=11 then Cu Tryz.prog kp 1 pK 600 f a M
 else none
theorem pU(B0:Nat):CR Tryz.prog B0 1 UW:=Co Bu hK Ed (pV B0) WT 20
theorem WU:B5 UW:=CK WT 20
theorem pW(B0:Nat):CR Tryz.prog B0 1 pK:=Co Bu hK Ed (pC B0) WR 20
theorem WV:B5 pK:=CK WR 20
theorem T1(k:Nat):B5 (oL k):=λf a M v M' h=>by
 unfold oL at h
 split at h
 ·exact Iv Mk k _ _ _ _ _ h
 split at h
 ·exact WS Lo _ _ _ _ _ h
 split at h
 ·exact Fz WU 600 _ _ _ _ _ h
 split at h
 ·exact Fz WV 600 _ _ _ _ _ h
 ·cases h
theorem ru(k B0:Nat):CR Tryz.prog B0 1 (oL k):=by
 have h1:=Nc (B0:=B0) Bu hK Ed kf Mk k
 have h2:=pQ Lo B0
 have h3:=HJ Bu hK Ed (pU B0) WU 600
 have h4:=HJ Bu hK Ed (pW B0) WV 600
 refine⟨λf a M v M' h=>(T1 k f a M v M' h).size,λf a M v M' h=>?_,λf a M v M' h=>?_⟩
 all_goals
  unfold oL at h;split at h
  ·first|exact h1.ok _ _ _ _ _ h|exact h1.body _ _ _ _ _ h
  split at h
  ·first|exact h2.ok _ _ _ _ _ h|exact h2.body _ _ _ _ _ h
  split at h
  ·first|exact h3.ok _ _ _ _ _ h|exact h3.body _ _ _ _ _ h
  split at h
  ·first|exact h4.ok _ _ _ _ _ h|exact h4.body _ _ _ _ _ h
  ·cases h
theorem pX{k:Nat}{f:FuncId}(h5:f≠5)(h6:f≠6)(h7:f≠7)(h8:f≠8)(h9:f≠9)(Sr:f≠10)(h11:f≠11)(a:List Value)(M:Mem):oL k f a M=none:=by
 unfold oL
 rw[if_neg (by rintro(e|e|e|e)<;>contradiction),if_neg h9,if_neg Sr,if_neg h11]
theorem jJ{k:Nat}{f:FuncId}(h:f=5\/f=6\/f=7\/f=8)(a:List Value)(M:Mem):oL k f a M=AJ Tryz.prog kp 1 oQ k f a M:=if_pos h
theorem tQ{k:Nat}(a:List Value)(M:Mem):oL k 9 a M=bn 9 a M:=(if_neg (by decide)).trans (if_pos rfl)
theorem tR{k:Nat}(a:List Value)(M:Mem):oL k 10 a M=Cu Tryz.prog kp 1 UW 600 10 a M:=(if_neg (by decide)).trans ((if_neg (by decide)).trans (if_pos rfl))
theorem E4{M:Mem}{j:Nat}(h:j<M.size):Bm M j=some (M.get j):=if_pos h
theorem UX{M M':Mem}(h:Hp M' (Bm M) []):Ext M M':=by
 obtain⟨ht,hK,_⟩:=h
 refine⟨?_,λj hj=>(hK j _ (E4 hj)).2,λ_=>ht⟩
 rcases Nat.eq_zero_or_pos M.size with h0|h0
 ·omega
 ·have:=(hK (M.size - 1) _ (E4 (by omega))).1;omega
theorem lV{M M':Mem}{K':CH}(h:Hp M' K' [])(hw:∀j x,Bm M j=some x->K' j=some x):Ext M M':=UX (h.weak hw)
structure dk(M:Mem):Prop where
 top:M.top
 pos:1<=M.size
 gl0:M.get 0= .cells false gl
theorem dk.ext{M M':Mem}(h:dk M)(x:Ext M M'):dk M':=⟨x.top h.top,Nat.le_trans h.pos x.size,(x.get 0 h.pos).trans h.gl0⟩
structure dc(rs:List BA)(k:Nat):Prop where
 rng:Gv rs
 ver:∀r∈rs,0<=r.verdict/\r.verdict<4294967296
 len:rs.length*32<=140737488355328
 tst:∀r∈rs,r.tests.length*56<=140737488355328
 k1:100000+200<=k
 k2:rs.length+100<=k
 k3:∀r∈rs,r.tests.length+100<=k
section
variable{M:Mem}{k:Nat}{rs:List BA}{v:Value}
theorem bq(h:dk M)(hk:1<=k):∃M',oL k 5 [] M=some (.bool true,M')/\Ext M M':=by
 obtain⟨M',h1,h2⟩:=m3 k M hk h.top h.pos h.gl0
 exact⟨M',(jJ (by decide) _ _).trans h1,h2⟩
theorem WW(h:dk M)(hT:dc rs k)(hv:CT (Bm M) v rs):∃M',oL k 6 [v] M=some (.bool (decide (5000<Hf rs)),M')/\Ext M M':=by
 obtain⟨M',h1,h2⟩:=eO m4 hT.k2 hT.len hv (Hp.all h.top)
 exact⟨M',(jJ (by decide) _ _).trans h1,UX h2⟩
theorem WX(h:dk M)(hT:dc rs k)(hv:CT (Bm M) v rs):∃v' M',oL k 8 [v] M=some (v',M')/\Ext M M'/\CT (Bm M') v' rs:=by
 obtain⟨K',v',M',h1,h2,h3,h4⟩:=fo m4 hT.k2 hT.k3 hT.len hT.tst hv (Hp.all h.top)
 refine⟨v',M',(jJ (by decide) _ _).trans h1,lV h3 h2,h4.mono λj x hj=>?_⟩
 obtain⟨_,hK,_⟩:=h3
 have:=hK j x hj
 rw[E4 this.1,this.2]
theorem WY(h:dk M)(hT:dc rs k)(hv:CT (Bm M) v rs):∃cv M',oL k 7 [v] M=some (.tuple ⟨[.agg ⟨[.slice none 0 0,cv]⟩, .int .i64 (Fl rs)]⟩,M')/\Ext M M'/\Gi M' (Bm M) (Cy rs) cv:=by
 obtain⟨cv,M',h1,h2,h3,_⟩:=eI m4 hT.k1 hT.rng hv (Hp.all h.top) (by rw[E4 h.pos,h.gl0])
 exact⟨cv,M',(jJ (by decide) _ _).trans h1,UX h2,h3⟩
end
theorem br(rs:List BB):(Bf rs).length=B3 rs:=by
 unfold Bf
 exact CE _ _ _
theorem Sa{rs:List BA}(h:Fl rs=0):(Ee rs).2=0/\(Bf (BS rs)).length<=512/\Cy rs=Bf (BS rs):=by
 have h0:=h
 unfold Fl at h
 split at h
 ·rename_i hc;split at h
  ·cases h
  ·exact⟨hc,by omega,if_pos h0⟩
 ·rename_i hc;exact absurd h hc
theorem bt{rs:List BA}{k:Nat}(h:Fl rs=0)(hT:dc rs k):yP rs/\∀r∈rs,KB r:=by
 obtain⟨h1,h2⟩:=O6 (Sa h).1
 have h3:=HT rs 0 h2
 refine⟨⟨by omega,λr hr=>⟨by have:=(h3 r hr).1;omega,λt ht=>⟨List.all_eq_true.1 (h3 r hr).2 t ht,hT.rng r hr t ht⟩⟩⟩,λr hr=>⟨λt ht=>testW (List.all_eq_true.1 (h3 r hr).2 t ht) (hT.rng r hr t ht).lo.1,(hT.ver r hr).1,(hT.ver r hr).2⟩⟩
theorem bu{rs:List BA}{k:Nat}{pk:List Int}{port:Int}(h:Fl rs=0)(hT:dc rs k)(hb:∀b∈pk,0<=b/\b<256)(hn:pk.length<=65535)(hp:0<=port/\port<4294967296):Lp (Cy rs) pk port (Bt pk port rs):=by
 obtain⟨hc,hl,ho⟩:=Sa h
 obtain⟨hF,hW⟩:=bt h hT
 have hbd:B3 (BS rs)<=20000:=by rw[←br];omega
 obtain⟨pc,n,r',h1,h2,h3,h4⟩:=Qu (port:=port) hW hbd hb hp.1
 rw[ho]
 refine⟨⟨?_,hl,RN hW hbd,TV hW⟩,hb,hn,hp,pc,n,r',h1,h2,h3,h4⟩
 rintro e
 rw[e]at h2
 simp at h2
noncomputable def c4:Code:=AM Tryz.f4
structure pY where
 lg:Bool:=false
 gt:Bool:=false
 ne:Bool:=false
 v:Value:=undef
 pv:Value:=undef
 port:Int:=0
 v8:Value:=undef
 cv:Value:=undef
 e:Int:=0
 jn:Int:=0
 jb:Bool:=true
 rv:Int:=0
 ri:Int:=0
 M5:Mem
 M6:Mem
 M8:Mem
 M7:Mem
 M11:Mem
noncomputable def I0(cv:Value):List Value:= [.slice none 0 0,cv]
noncomputable def yQ(d:pY)(o:C1):H.Hint where
 ix _:=false
 ld _ t _:=cond (Nat.beq t 22) (some d.v) (cond (Nat.beq t 23) (some d.pv) (cond (Nat.beq t 24) (some (.int .u32 d.port)) (cond (Nat.beq t 32) (some (.agg ⟨I0 d.cv⟩)) (cond (Nat.beq t 30) (some d.cv) none))))
 cmp op t:=cond (Nat.beq t 3) (BinOp.rec (motive:=λ_=>Option Bool) none none none none none none none none none none none none none none none (some d.gt) none op)
  (cond (Nat.beq t 33) (BinOp.rec (motive:=λ_=>Option Bool) none none none none none none none none none none none none (some d.ne) none none none none op)
  (cond (Nat.beq t 38) (BinOp.rec (motive:=λ_=>Option Bool) none none none none none none none none none none none (some true) none none none none none op)
  (cond (Nat.beq t 24) (BinOp.rec (motive:=λ_=>Option Bool) none none none none none none none none none none none (some true) none none none none none op) none)))
 ap _:=none
 call f:=cond (Nat.beq f 5) (some (.bool true)) (cond (Nat.beq f 6) (some (.bool d.lg)) (cond (Nat.beq f 8) (some d.v8) (cond (Nat.beq f 7) (some (.tuple ⟨[.agg ⟨I0 d.cv⟩, .int .i64 d.e]⟩))
  (cond (Nat.beq f 9) (some (.tuple ⟨[.int .u64 d.jn, .bool d.jb]⟩)) (cond (Nat.beq f 10) (some (.tuple ⟨[.int .u32 d.rv, .int .i64 d.ri]⟩)) (cond (Nat.beq f 11) (some (.tuple ⟨[.int .u32 d.rv, .int .i64 d.ri]⟩)) none))))))
 spec _ _ _ _:=False
 blk:=0
 eff f m:=cond (Nat.beq f 5) d.M5 (cond (Nat.beq f 6) d.M6 (cond (Nat.beq f 8) d.M8 (cond (Nat.beq f 7) d.M7 (cond (Nat.beq f 11) d.M11 m))))
 specM f:=some λargs m v=>o f args m=some (v,cond (Nat.beq f 5) d.M5 (cond (Nat.beq f 6) d.M6 (cond (Nat.beq f 8) d.M8 (cond (Nat.beq f 7) d.M7 (cond (Nat.beq f 11) d.M11 m)))))
 st t _:=cond (Nat.beq t 32) (some (.cells true (I0 d.cv))) none
noncomputable def Yo(v pv:Value)(port:Int):List Value:= [v,pv, .int .u32 port]
noncomputable def dsL:List Nat:= [1,3,4]
noncomputable def yf(d:pY)(o:C1)(k:Nat)(ds:List Nat)(v pv:Value)(port:Int)(m:Mem):=JJ (yQ d o) Tryz.prog kp k (DM ((items c4).take 8)) 77 ds (AB 77 (Bv [.agg ⟨Yo v pv port⟩])) m
noncomputable def qv(m:Mem)(v pv:Value)(port:Int):Mem:=m.push (.cells true (Yo v pv port))
noncomputable def zI:List Value:= [.slice none 0 0, .slice none 0 0]
noncomputable def jK(M7:Mem)(cv:Value):Mem:=(M7.push (.cells true zI)).set M7.size (.cells true (I0 cv))
noncomputable def qw(M:Mem)(z:Nat)(v:Value):Prop:=H.ldOk (M.get z) 0 false 1 v
noncomputable def Qa(M:Mem)(z j:Nat)(v:Value):Prop:=H.ldOk (M.get z) (Nat.add 0 j) false 1 v
noncomputable def tT(np:Nat)(b:Bool):Prop:=B6 Tryz.prog kp .gtr 3 (.int .i64 (Int.ofNat np)) (.int .i64 65535)=some (.bool b)
noncomputable def neL(e:Int)(b:Bool):Prop:=B6 Tryz.prog kp .neq 33 (.int .i64 e) (.int .i64 0)=some (.bool b)
noncomputable def xF(M7:Mem)(cv:Value):Prop:=H.stOk Tryz.prog ((M7.push (.cells true zI)).get M7.size) 32 0 (.agg ⟨I0 cv⟩) (.cells true (I0 cv))
section
variable(k:Nat)(x:Nat->Value)(o:C1)(ra pa ca:Option Addr)(rn rc np pc cn cc:Nat)(v8:Value)(port jn rv ri e:Int)(m M M5 M6 M8 M7 M11:Mem)
end
noncomputable def yg(d:pY)(o:C1)(k:Nat)(x:Nat->Value)(z y:Nat)(M:Mem):=JJ (yQ d o) Tryz.prog kp k (DM ((items c4).drop 8)) 77 [2] (AB 77 (up x (dsL.zip [BP z 0,BP y 0, .int .i64 0]))) M
noncomputable abbrev ng(k:Nat):EV:=CG Tryz.prog kp 1 (oL k) 20
theorem szI:Bz Tryz.prog 32=some 2:=by kernel_rfl
theorem WZ{M:Mem}{z:Nat}{c:List Value}{v:Value}{own:Bool}(h:M.get z= .cells own c)(hv:c[0]?=some v):qw M z v:=by
 unfold qw;rw[h];exact hv
theorem I1{M:Mem}{z j:Nat}{c:List Value}{v:Value}{own:Bool}(h:M.get z= .cells own c)(hv:c[j]?=some v):Qa M z j v:=by
 unfold Qa;rw[h]
 show c[Nat.add 0 j]?=_
 rw[show Nat.add 0 j=j from Nat.zero_add j]
 exact hv
theorem bw{M7:Mem}{a:Option Addr}{n c:Nat}:xF M7 (.slice a n c):=λm b hg=>by
 rw[Mem.get_push_same]at hg
 rw[Ce (n:=2) szI rfl hg (by decide) rfl]
 rfl
theorem xG{np:Nat}(h:65535<np):tT np true:=by unfold tT;simp[B6,Ba,Bc];omega
theorem xH{np:Nat}(h:¬65535<np):tT np false:=by unfold tT;simp[B6,Ba,Bc];omega
theorem W0(M7:Mem)(cv:Value):Ext M7 (jK M7 cv):=Ext.fresh
theorem Wa(M7:Mem)(cv:Value):(jK M7 cv).get M7.size= .cells true (I0 cv):=Mem.get_set_same ..
theorem JU.to{M M':Mem}{c:Nat}{pv:Value}{pk:List Int}(h:JU M pv pk)(x:Ext M M')(hc:M.size<=c):tO M' c pv pk:=by
 rcases h with g|⟨k,sp,cap,own,h1,h2,h3,h4,h5,h6⟩
 ·exact .inl g
 ·exact .inr ⟨k,sp,cap,own,h1,Nat.lt_of_lt_of_le h4 x.size,h5,by omega,(x.get k h4).trans h6⟩
theorem dk.srv{M:Mem}{pv:Value}{pk:List Int}(h:dk M)(hp:JU M pv pk):jH M pv pk:=⟨h.top,h.gl0,h.pos,hp⟩
set_option maxRecDepth 100000
theorem TD{d:Dt}(h:Typed Tryz.prog 7 5 d):∃b:Int,d= .int .u8 b/\0<=b/\b<256:=by
 obtain⟨x,rfl,hw⟩:=Dy (n:=6) Tryz.underlying5 h
 simp[Lit.wf]at hw
 have e1:IntKind.u8.min=0:=rfl
 have e2:IntKind.u8.max=255:=rfl
 rw[e1,e2]at hw
 exact⟨x,rfl,by omega,by omega⟩
theorem L8:∀(l:List Dt),(∀x∈l,Typed Tryz.prog 7 5 x)->∃pk:List Int,pk.length=l.length/\(∀b∈pk,0<=b/\b<256)/\∀(m:Mem) (cs:List Value),Ew m l cs->cs=AN pk
 | [],_=>⟨[],rfl,λb hb=>by simp at hb,λm cs h=>h⟩
 |d::l,h=>by
  obtain⟨b,rfl,h1,h2⟩:=TD (h d (by simp));obtain⟨pk,h3,h4,h5⟩:=L8 l λx hx=>h x (by simp[hx]);refine⟨b::pk,by simp[h3],λx hx=>?_,λm cs hc=>?_⟩
  ·rcases List.mem_cons.1 hx with rfl|hx
   ·exact⟨h1,h2⟩
   ·exact h4 x hx
  ·simp only[Ew]at hc;obtain⟨c1,c2,rfl,g1,g2⟩:=hc;simp only[Gx]at g1;rw[g1,h5 m c2 g2];rfl
theorem rR:GW Tryz.prog 26=some true:=by kernel_rfl
theorem rS:GW Tryz.prog 22=some false:=by kernel_rfl
theorem Yn{pk:List Int}(h:BI.cells false gl= .cells false (AN pk)):False:=by
 have h:=BI.cells.inj h
 have h:gl=AN pk:=h.2
 cases pk with
 |nil=>cases h
 |cons b pk=>
  have:=congrArg List.head? h;cases this
theorem Wx{m:Mem}{d:Dt}{v:Value}(h0:m.get 0= .cells false gl)(h:Typed Tryz.prog 9 26 d)(ha:Arg Tryz.prog m 26 d v):
  ∃(d0 d1 d2:Dt) (v0 pv:Value) (pk:List Int) (port:Int),d= .ag [d0,d1,d2]/\v= .agg ⟨Yo v0 pv port⟩/\Typed Tryz.prog 8 22 d0/\Arg Tryz.prog m 22 d0 v0/\
   JU m pv pk/\(∀b∈pk,0<=b/\b<256)/\0<=port/\port<4294967296:=by
 unfold Arg at ha
 rw[rR]at ha
 obtain⟨c,rfl,hc⟩:=ha
 unfold Typed at h
 rw[Tryz.underlying26]at h
 obtain⟨l,rfl,h⟩:=h
 simp only[List.map_cons,List.map_nil]at h
 obtain⟨d0,l,rfl,t0,h⟩:=Ch h
 obtain⟨d1,l,rfl,t1,h⟩:=Ch h
 obtain⟨d2,l,rfl,t2,h⟩:=Ch h
 have hnil:=Ht h
 subst hnil
 simp only[Gx,Ew]at hc
 obtain⟨c0,c,rfl,r0,c1,c',rfl,r1,c2,c3,rfl,r2,rfl⟩:=hc
 obtain⟨port,rfl,hpw⟩:=Dy Tryz.underlying24 t2
 have hpr:0<=port/\port<4294967296:=by
  simp[Lit.wf]at hpw;have e1:IntKind.u32.min=0:=rfl;have e2:IntKind.u32.max=4294967295:=rfl;rw[e1,e2]at hpw;omega
 simp only[Gx]at r2
 subst r2
 obtain⟨pv,pk,rfl,hpk,hpb⟩:∃pv pk,c1= [pv]/\JU m pv pk/\∀b∈pk,0<=b/\b<256:=by
  unfold Typed at t1;rw[Tryz.underlying23]at t1;rcases t1 with rfl|⟨l,cap,rfl,hle,_,hl⟩
  ·simp only[Gx]at r1;exact⟨_,[],r1, .inl ⟨rfl,rfl⟩,λb hb=>by simp at hb⟩
  ·obtain⟨pk,g1,g2,g3⟩:=L8 l hl;simp only[Gx]at r1;obtain⟨b,sp,c,q1,q2,q3,q4,q5⟩:=r1;have hcb:=g3 m c q4;subst hcb;refine⟨_,pk,q1, .inr ⟨b,sp,cap,false,by rw[g1],by omega,?_,q2,?_,q3⟩,g2⟩
   ·rcases q5 with q5|⟨q5,_⟩
    ·exact .inl q5
    ·refine .inr (List.length_eq_zero_iff.1 ?_);rw[g1,q5];rfl
   ·rintro rfl;rw[h0]at q3;exact Yn q3
 have key:∃v0,c0= [v0]:=by
  unfold Typed at t0;rw[Tryz.underlying22]at t0;rcases t0 with rfl|⟨l,cap,rfl,hle,_,hl⟩
  ·simp only[Gx]at r0;exact⟨_,r0⟩
  ·simp only[Gx]at r0;obtain⟨b,sp,c,q1,_⟩:=r0;exact⟨_,q1⟩
 obtain⟨v0,rfl⟩:=key
 exact⟨d0,d1, .int .u32 port,v0,pv,pk,port,rfl,rfl,t0,by unfold Arg;rw[rS];exact r0,hpk,hpb,hpr⟩
theorem Oa{α β:Type}{R S:α->β->Prop}:∀{l:List α} {l':List β},(∀a∈l,∀b,R a b->S a b)->JV R l l'->JV S l l'
 | [],[],_,_=>trivial
 |a::l,b::l',h,hr=>⟨h a (List.mem_cons_self ..) b hr.1,Oa (λa ha b hb=>h a (List.mem_cons_of_mem _ ha) b hb) hr.2⟩
theorem HV{P:Program}:∀(n:Nat) (t:TypeId) (d:Dt),Fh P n t=true->Typed P (n+1) t d->Typed P n t d
 |0,t,d,h,_=>by simp[Fh]at h
 |n+1,t,d,h,ht=>by
  unfold Fh at h;unfold Typed at ht ⊢;cases hu:P.underlying t with
  |none=>rw[hu]at h;cases h
  |some u=>
   rw[hu]at h ht;cases u<;>simp only at h ht ⊢ <;>try (exact ht)
   all_goals try (cases h;done)
   ·rename_i e;simp only[Bool.and_eq_true]at h;rcases ht with ht|⟨l,cap,h1,h2,h3,h4⟩
    ·exact .inl ht
    ·exact .inr ⟨l,cap,h1,h2,h3,λx hx=>HV n e x h.2 (h4 x hx)⟩
   ·rename_i k e;simp only[Bool.and_eq_true]at h;obtain⟨l,h1,h2,h3⟩:=ht;exact⟨l,h1,h2,λx hx=>HV n e x h.1 (h3 x hx)⟩
   ·rename_i fs;simp only[Bool.and_eq_true]at h;obtain⟨l,h1,h2⟩:=ht;refine⟨l,h1,Oa (λa ha b hb=>?_) h2⟩;obtain⟨f,hf,rfl⟩:=List.mem_map.1 ha;exact HV n _ b (List.all_eq_true.1 h.1 f hf) hb
theorem Yp{l:List BA}{r:BA}(h:r∈l):r.tests.length<=(l.map λr=>r.tests.length).sum:=by
 induction l with
 |nil=>simp at h
 |cons x l ih=>
  rw[List.map_cons,List.sum_cons];rcases List.mem_cons.1 h with rfl|h
  ·omega
  ·have:=ih h;omega
end
end Go.Proofs.YtgjflcgmieiafaaGreatDoor
namespace Go.DI
open Go.DI.Kit
noncomputable section
section
variable{P:Program}{K:TypeId->Bool}{M M':Mem}{h:H.Hint}{o:C1}{N k:Nat}{ops l:List Oper}{ds:List Nat}{vs:List Value}{qs:List Prop}{x:Nat->Value}
noncomputable def qo(h:H.Hint)(P:Program)(K:TypeId->Bool)(ops l:List Oper)(N:Nat)(ds:List Nat)(t:AF)(M:Mem):Option (H.TT (List Value×Mem)):=
 H.opsH h l P K 1 (H.callT h P K 1 20) N ops t M λt m=>some ((ds.map t.at,m),[],[])
theorem IS(hs:Gn N)(hd:ds.all (λd=>Nat.blt d N)=true)(h1:∀f v args m,h.call f=some v->h.says f args m v->o f args m=some (v,h.eff f m))(h2:∀f,h.call f=none->∀a m,o f a m=none)
  (hr:(qo h P K ops l N ds (AB N x) M).map (λx=>(x.1,x.2.2))=some ((vs,M'),qs)) (hp:((qo h P K ops l N ds (AB N x) M).map λx=>x.2.1.map Prod.fst)=((qo h P K ops l N ds (AB N x) M).map λx=>x.2.1.map Prod.snd)) (hq:∀q∈qs,q):
  ∃x',EM P K 1 (CG P K 1 o 20) N ops l (AB N x) M=some (AB N (up x' (ds.zip vs)),M'):=by
 cases hx:qo h P K ops l N ds (AB N x) M with
 |none=>rw[hx]at hr;cases hr
 |some r=>
  obtain⟨b',ps,qs'⟩:=r;rw[hx]at hr hp;have hr:some (b',qs')=some ((vs,M'),qs):=hr;simp only[Option.some.injEq,Prod.mk.injEq]at hr;obtain⟨rfl,rfl⟩:=hr;have hp:some (ps.map Prod.fst)=some (ps.map Prod.snd):=hp;obtain⟨⟨t',m'⟩,q1,ps',q2,_⟩:=H.ops_fac h (H.call_fac h P K 1 o h1 h2 20) N ops l (AB N x) M (λp=>some ((ds.map p.1.at,p.2),[],[])) (vs,M') (ps,qs') hx (H.good_of (Option.some.inj hp) hq);simp only[Option.some.injEq,Prod.mk.injEq]at q2;obtain⟨⟨q3,q4⟩,_⟩:=q2;subst q4;obtain⟨y,rfl⟩:=Io hs _ _ _ _ _ q1 ⟨x,rfl⟩;refine⟨y,?_⟩;rw[q1,up_self y (ds.zip vs) λp hp=>?_];rw[←q3]at hp;have h3:=Ty hp;have h4:p.1<N:=Nat.blt_eq▸(List.all_eq_true.1 hd p.1 h3.1);rw[GL,if_pos h4]at h3;exact h3.2
variable{G:Nat}{cf:EV}{t t' t2:AF}{m m' m2:Mem}
theorem Nj{ops:List Oper}:∀(a b:List Oper) (t:AF) (m:Mem),EM P K G cf N ops (a++b) t m=(match EM P K G cf N ops a t m with|some (t',m')=>EM P K G cf N ops b t' m'|none=>none)
 | [],b,t,m=>rfl
 |o::a,b,t,m=>by
  simp only[List.cons_append,EM];split
  ·split
   ·cases Dr P K G cf t m o.op with
    |none=>rfl
    |some r=>
     obtain⟨v,m1⟩:=r;exact Nj a b _ _
   ·exact Nj a b _ _
  ·rfl
theorem Nk{id:Nat}{r:Array Oper}(i:Nat)(h1:EM P K G cf N r.toList (r.toList.take i) t m=some (t',m'))(h2:EM P K G cf N r.toList (r.toList.drop i) t' m'=some (t2,m2)):AI P K G cf (AV P K G cf N) N k (.region id r false) t m=some (.normal,t2,m2):=by
 have:EM P K G cf N r.toList r.toList t m=some (t2,m2):=by
  rw[show EM P K G cf N r.toList r.toList t m=EM P K G cf N r.toList (r.toList.take i++r.toList.drop i) t m by rw[List.take_append_drop],Nj,h1];exact h2
 simp only[AI,cond_false,this]
variable{c:Code}{e:Ex}{M0 M1 M2:Mem}{t1:AF}
theorem PJ(i:Nat)(c:Code){X:Code}{rest:List Code}(hd:(items c).drop i=X::rest) (h1:AI P K G cf (AV P K G cf N) N k (DM ((items c).take i)) t M0=some (.normal,t1,M1))
  (h2:AI P K G cf (AV P K G cf N) N k X t1 M1=some (.normal,t2,M2)):AI P K G cf (AV P K G cf N) N k c t M0=AI P K G cf (AV P K G cf N) N k (DM rest) t2 M2:=by
 rw[Iq i c h1,CI,hd]
 simp only[G8,h2,CI]
theorem LP(i:Nat)(l:List Code)(h:AI P K G cf (AV P K G cf N) N k (DM (l.take i)) t m=some (.normal,t',m')):AI P K G cf (AV P K G cf N) N k (DM l) t m=AI P K G cf (AV P K G cf N) N k (DM (l.drop i)) t' m':=by
 rw[CI,←List.take_append_drop i l,FH,←CI,h]
 simp only[List.take_append_drop]
 rw[CI]
theorem Ji(i:Nat)(l:List Code)(he:e≠ .normal)(h:AI P K G cf (AV P K G cf N) N k (DM (l.take i)) t m=some (e,t',m')):AI P K G cf (AV P K G cf N) N k (DM l) t m=some (e,t',m'):=by
 rw[CI,←List.take_append_drop i l,FH,←CI,h]
 cases e with
 |normal=>exact absurd rfl he
 |exit id=>rfl
 |ret=>rfl
end
end
end Go.DI
namespace Go.Proofs.YtgjflcgmieiafaaGreatDoor
open Go Go.DI Go.DI.Kit Go.Proofs Go.Cmp
noncomputable section
noncomputable def c3:Code:=AM Tryz.f3
noncomputable def pZ:Array Oper:=IQ c3 3
structure JO where
 lg:Bool:=false
 gt:Bool:=false
 lt:Bool:=false
 v:Value:=undef
 pv:Value:=undef
 port:Int:=0
 v8:Value:=undef
 cv:Value:=undef
 e:Int:=0
 jn:Int:=0
 rv:Int:=0
 ri:Int:=0
 a1:Value:=undef
 N1:Mem:=⟨λ_=> .none, .nil,0⟩
 a2:Value:=undef
 N2:Mem:=⟨λ_=> .none, .nil,0⟩
 M5:Mem:=⟨λ_=> .none, .nil,0⟩
 M6:Mem:=⟨λ_=> .none, .nil,0⟩
 M8:Mem:=⟨λ_=> .none, .nil,0⟩
 M7:Mem:=⟨λ_=> .none, .nil,0⟩
noncomputable def cB(d:JO)(o:C1):H.Hint where
 ix _:=false
 ld _ t _:=cond (Nat.beq t 22) (some d.v) (cond (Nat.beq t 23) (some d.pv) (cond (Nat.beq t 24) (some (.int .u32 d.port)) (cond (Nat.beq t 32) (some (.agg ⟨I0 d.cv⟩)) none)))
 cmp op t:=cond (Nat.beq t 3) (BinOp.rec (motive:=λ_=>Option Bool) none none none none none none none none none none none none none (some d.lt) none (some d.gt) (some true) op)
  (cond (Nat.beq t 38) (BinOp.rec (motive:=λ_=>Option Bool) none none none none none none none none none none none (some true) none none none none none op) none)
 ap _:=none
 call f:=cond (Nat.beq f 5) (some (.bool true)) (cond (Nat.beq f 6) (some (.bool d.lg)) (cond (Nat.beq f 8) (some d.v8) (cond (Nat.beq f 7) (some (.tuple ⟨[.agg ⟨I0 d.cv⟩, .int .i64 d.e]⟩))
  (cond (Nat.beq f 9) (some (.tuple ⟨[.int .u64 d.jn, .bool true]⟩)) (cond (Nat.beq f 10) (some (.tuple ⟨[.int .u32 d.rv, .int .i64 d.ri]⟩)) (cond (Nat.beq f 11) (some undef) none))))))
 spec _ _ _ _:=False
 blk:=0
 eff f m:=cond (Nat.beq f 5) d.M5 (cond (Nat.beq f 6) d.M6 (cond (Nat.beq f 8) d.M8 (cond (Nat.beq f 7) d.M7 m)))
 specM f:=some λargs m v=>o f args m=some (v,cond (Nat.beq f 5) d.M5 (cond (Nat.beq f 6) d.M6 (cond (Nat.beq f 8) d.M8 (cond (Nat.beq f 7) d.M7 m))))
 st t _:=cond (Nat.beq t 32) (some (.cells true (I0 d.cv))) none
 apO x:=match x with| .tmp 40=>some (d.a1,d.N1)| .tmp 42=>some (d.a2,d.N2)|_=>none
noncomputable def mvV(wa:Option Addr)(wn wc:Nat):Value:= .slice wa wn wc
noncomputable def tU:List Nat:= [1,2]
noncomputable def tV:List Nat:= [1,2,5,6]
noncomputable def tW:List Nat:= [1,2,5,7]
noncomputable def tY:List Nat:= [1,2,5,7,9,10]
noncomputable def zp(l:List Nat)(z:Nat):Value:=BP z 0
section
variable(k:Nat)(x:Nat->Value)(o:C1)(ra wa pa ca r8:Option Addr)(rn rc wn wc np pc cn cc n8 c8 z y y2:Nat)(port jn j2 rv ri e:Int)(m M M5 M6 M8 M7 N1 N2:Mem)
noncomputable def mrA(d:JO)(o:C1)(k:Nat)(v pv w:Value)(port:Int)(m:Mem):=JJ (cB d o) Tryz.prog kp k (DM ((items c3).take 3)) 103 tU (AB 103 (Bv [.agg ⟨Yo v pv port⟩,w])) m
theorem tZ(v pv w:Value):Rn (mrA {M5:=M5} o k v pv w port m) ((.normal,[w,BP m.size 0],M5),[o 5 [] (qv m v pv port)=some (.bool true,M5)]):=⟨by kernel_rfl,by kernel_rfl⟩
noncomputable def xK(d:JO)(o:C1)(x:Nat->Value)(w:Value)(z:Nat)(M:Mem):=qo (cB d o) Tryz.prog kp pZ.toList (pZ.toList.take 4) 103 [1,2,20] (AB 103 (up x (tU.zip [w,BP z 0]))) M
theorem p6(lg:Bool)(w:Value):Rn (xK {lg:=lg,v:= .slice ra rn rc,M6:=M6} o x w z M) (([w,BP z 0, .bool lg],M6),[qw M z (.slice ra rn rc),o 6 [.slice ra rn rc] M=some (.bool lg,M6)]):=⟨by kernel_rfl,by kernel_rfl⟩
noncomputable def p7(d:JO)(o:C1)(x:Nat->Value)(w:Value)(z:Nat)(lg:Bool)(M:Mem):=qo (cB d o) Tryz.prog kp pZ.toList (pZ.toList.drop 4) 103 [1,2,29] (AB 103 (up x ([1,2,20].zip [w,BP z 0, .bool lg]))) M
theorem jL(w:Value):Rn (p7 {} o x w z true M) (([w,BP z 0, .bool true],M),[]):=⟨by kernel_rfl,by kernel_rfl⟩
theorem jM(w:Value):Rn (p7 {lg:=true,M6:=M6} o x w z false M) (([w,BP z 0, .bool true],M6),[o 6 [w] M=some (.bool true,M6)]):=⟨by kernel_rfl,by kernel_rfl⟩
theorem Wc(gt:Bool)(w:Value):Rn (p7 {gt:=gt,pv:= .slice pa np pc,M6:=M6} o x w z false M) (([w,BP z 0, .bool gt],M6),[o 6 [w] M=some (.bool false,M6),Qa M6 z 1 (.slice pa np pc),tT np gt]):=by
 cases gt<;>exact⟨by kernel_rfl,by kernel_rfl⟩
noncomputable def yR(d:JO)(o:C1)(k:Nat)(x:Nat->Value)(w:Value)(z:Nat)(b:Bool)(ds:List Nat)(M:Mem):=JJ (cB d o) Tryz.prog kp k (DM (((items c3).drop 4).take 2)) 103 ds (AB 103 (up x ([1,2,29].zip [w,BP z 0, .bool b]))) M
theorem p8(w:Value):Rn (yR {} o k x w z true [4] M) ((.ret,[.bool true],M),[]):=⟨by kernel_rfl,by kernel_rfl⟩
theorem p9(w v8:Value):Rn (yR {v:= .slice ra rn rc,v8:=v8,cv:= .slice ca cn cc,e:=e,M8:=M8,M7:=M7} o k x w z false tV M) ((.normal,[w,BP z 0,BP M7.size 0, .int .i64 e],jK M7 (.slice ca cn cc)),[qw M z (.slice ra rn rc),o 8 [.slice ra rn rc] M=some (v8,M8),o 7 [v8] M8=some (.tuple ⟨[.agg ⟨I0 (.slice ca cn cc)⟩, .int .i64 e]⟩,M7),xF M7 (.slice ca cn cc)]):=⟨by kernel_rfl,by kernel_rfl⟩
noncomputable def xL(d:JO)(o:C1)(k:Nat)(x:Nat->Value)(w:Value)(z y:Nat)(e:Int)(ds:List Nat)(M:Mem):=JJ (cB d o) Tryz.prog kp k (DM (((items c3).drop 6).take 3)) 103 ds (AB 103 (up x (tV.zip [w,BP z 0,BP y 0, .int .i64 e]))) M
noncomputable def yS(M:Mem)(s x:Value)(a:Value)(N:Mem):Prop:=Bi Tryz.prog M 22 22 s x=some (a,N)
noncomputable def ub(o:C1)(M:Mem)(z:Nat)(v w a1 a2 v8 cv:Value)(N1 N2 M8 M7:Mem)(f:Int):List Prop:=
 [qw (M.push (.cells true [])) z v,yS (M.push (.cells true [])) (.slice (some ⟨M.size,0,none⟩) 0 0) v a1 N1,yS N1 a1 w a2 N2,o 8 [a2] N2=some (v8,M8),o 7 [v8] M8=some (.tuple ⟨[.agg ⟨I0 cv⟩, .int .i64 f]⟩,M7),xF M7 cv]
theorem pd(w a1 a2 v8:Value)(e f:Int)(h:e=1\/e=3):Rn (xL {v:= .slice ra rn rc,a1:=a1,N1:=N1,a2:=a2,N2:=N2,v8:=v8,cv:= .slice ca cn cc,e:=f,M8:=M8,M7:=M7} o k x w z y e [4] M) ((.ret,[.bool true],jK M7 (.slice ca cn cc)),ub o M z (.slice ra rn rc) w a1 a2 v8 (.slice ca cn cc) N1 N2 M8 M7 f):=by
 rcases h with rfl|rfl<;>exact⟨by kernel_rfl,by kernel_rfl⟩
theorem pe(w a1 a2 v8:Value)(f:Int)(h:f=1\/f=3):Rn (xL {v:= .slice ra rn rc,a1:=a1,N1:=N1,a2:=a2,N2:=N2,v8:=v8,cv:= .slice ca cn cc,e:=f,M8:=M8,M7:=M7} o k x w z y 0 [4] M) ((.ret,[.bool true],jK M7 (.slice ca cn cc)),ub o M z (.slice ra rn rc) w a1 a2 v8 (.slice ca cn cc) N1 N2 M8 M7 f):=by
 rcases h with rfl|rfl<;>exact⟨by kernel_rfl,by kernel_rfl⟩
theorem pg(w a1 a2 v8:Value):Rn (xL {v:= .slice ra rn rc,a1:=a1,N1:=N1,a2:=a2,N2:=N2,v8:=v8,cv:= .slice ca cn cc,e:=0,M8:=M8,M7:=M7} o k x w z y 0 tW M) ((.normal,[w,BP z 0,BP y 0,BP M7.size 0],jK M7 (.slice ca cn cc)),ub o M z (.slice ra rn rc) w a1 a2 v8 (.slice ca cn cc) N1 N2 M8 M7 0):=⟨by kernel_rfl,by kernel_rfl⟩
noncomputable def mrC(d:JO)(o:C1)(k:Nat)(x:Nat->Value)(w:Value)(z y y2:Nat)(M:Mem):=JJ (cB d o) Tryz.prog kp k (DM (((items c3).drop 9).take 1)) 103 tY (AB 103 (up x (tW.zip [w,BP z 0,BP y 0,BP y2 0]))) M
noncomputable def jN(M:Mem)(y:Nat)(cv:Value):Prop:=H.ldOk (M.get y) 0 true 2 (.agg ⟨I0 cv⟩)
theorem td(w:Value):Rn (mrC {pv:= .slice pa np pc,port:=port,cv:= .slice ca cn cc,jn:=jn} o k x w z y y2 M) ((.normal,[w,BP z 0,BP y 0,BP y2 0, .int .u64 jn, .bool true],M),[jN M y (.slice ca cn cc),Qa M z 1 (.slice pa np pc),Qa M z 2 (.int .u32 port),o 9 [.agg ⟨I0 (.slice ca cn cc)⟩, .slice pa np pc, .int .u32 port] M=some (.tuple ⟨[.int .u64 jn, .bool true]⟩,M)]):=⟨by kernel_rfl,by kernel_rfl⟩
noncomputable def yT(d:JO)(o:C1)(k:Nat)(x:Nat->Value)(w:Value)(z y y2:Nat)(jn:Int)(M:Mem):=JJ (cB d o) Tryz.prog kp k (DM ((items c3).drop 10)) 103 [4] (AB 103 (up x (tY.zip [w,BP z 0,BP y 0,BP y2 0, .int .u64 jn, .bool true]))) M
noncomputable def xM(o:C1)(M:Mem)(z y2:Nat)(v pv cv:Value)(port j2 rv ri:Int):List Prop:=
 [jN M y2 cv,Qa M z 1 pv,Qa M z 2 (.int .u32 port),o 9 [.agg ⟨I0 cv⟩,pv, .int .u32 port] M=some (.tuple ⟨[.int .u64 j2, .bool true]⟩,M),
  qw M z v,Qa M z 1 pv,Qa M z 2 (.int .u32 port),o 10 [v,pv, .int .u32 port] M=some (.tuple ⟨[.int .u32 rv, .int .i64 ri]⟩,M)]
noncomputable def qz(ri:Int)(b:Bool):Prop:=B6 Tryz.prog kp .lss 3 (.int .i64 ri) (.int .i64 0)=some (.bool b)
noncomputable def xP(ri:Int):Prop:=B6 Tryz.prog kp .geq 3 (.int .i64 ri) (.int .i64 0)=some (.bool true)
noncomputable def jO(a b:Int):Prop:=B6 Tryz.prog kp .eql 38 (.int .u64 a) (.int .u64 b)=some (.bool true)
theorem ph(w:Value):Rn (yT {lt:=true,v:= .slice ra rn rc,pv:= .slice pa np pc,port:=port,cv:= .slice ca cn cc,jn:=j2,rv:=rv,ri:=ri} o k x w z y y2 jn M) ((.ret,[.bool true],M),xM o M z y2 (.slice ra rn rc) (.slice pa np pc) (.slice ca cn cc) port j2 rv ri++ [qz ri true,jO jn 0]):=⟨by kernel_rfl,by kernel_rfl⟩
theorem pj(w:Value):Rn (yT {lt:=false,v:= .slice ra rn rc,pv:= .slice pa np pc,port:=port,cv:= .slice ca cn cc,jn:=j2,rv:=rv,ri:=ri} o k x w z y y2 jn M) ((.ret,[.bool true],M),xM o M z y2 (.slice ra rn rc) (.slice pa np pc) (.slice ca cn cc) port j2 rv ri++ [qz ri false,xP ri,jO jn j2]):=⟨by kernel_rfl,by kernel_rfl⟩
end
theorem lk:bytesOf Tryz.prog 55=some 32:=by kernel_rfl
theorem rF:(Df Tryz.prog 55 1).isSome=true:=by kernel_rfl
section
variable{K:CH}{M:Mem}{o:C1}{k:Nat}
def P0(K:CH)(v:Value):Prop:=∃a n c,v= .slice a n c/\(a=none\/∃b sp own cs,a=some ⟨b,0,sp⟩/\K b=some (.cells own cs))
theorem P0.mono{K':CH}{v:Value}(h:P0 K v)(hw:∀j x,K j=some x->K' j=some x):P0 K' v:=by
 obtain⟨a,n,c,h1,h2⟩:=h
 refine⟨a,n,c,h1,h2.imp id ?_⟩
 rintro⟨b,sp,own,cs,e1,e2⟩
 exact⟨b,sp,own,cs,e1,hw _ _ e2⟩
def rG(M:Mem)(K:CH)(vr:List (Value×BA))(oa:Option Addr):Prop:=(vr= []/\∃b,oa=some ⟨b,0,none⟩/\M.get b= .cells true [])\/∃c,oa=some ⟨c,0,some 2⟩/\c<M.size/\K c=none/\M.get c= .cells true (vr.flatMap BX)
theorem Qm{m:Mem}{a:Addr}{x:Value}{n:Nat}{new:List Value}(hl:lenOf x=some 0)(hf:Ca m 2 0 x=some new):
  Bi Tryz.prog m 22 22 (.slice (some a) n n) x=some (.slice (some a) n n,m):=by
 obtain⟨b,off,sp⟩:=a
 unfold Bi
 simp only[Tryz.underlying22,Yb,lk,hl,hf]
 rw[if_neg (by decide),if_pos (by omega),if_pos trivial]
 rfl
theorem Su{m:Mem}{b n:Nat}{x:Value}{new:List Value}(hg:m.get b= .cells true [])(hl:lenOf x=some n)(hn:0<n)(hbig:n<=1000000)(hf:Ca m 2 n x=some new)(hnl:new.length=n*2)(h1:new.all one=true):
  Bi Tryz.prog m 22 22 (.slice (some ⟨b,0,none⟩) 0 0) x=some (.slice (some ⟨m.size,0,some 2⟩) n n,m.push (.cells true new)):=by
 have hf0:Ca m 2 0 (.slice (some ⟨b,0,none⟩) 0 0)=some []:=FY (rest:= []) hg rfl
 unfold Bi
 simp only[Tryz.underlying22,Yb,lk,hl,hf,hf0]
 rw[if_neg (by decide),if_neg (by omega),if_pos ⟨by omega,by omega,by decide,rF⟩,if_pos ⟨by rw[h1];rfl,by simp,hnl⟩]
 simp
theorem Qn{vr vb:List (Value×BA)}{oa ba:Option Addr}{bc:Nat}(hs:∀y∈vr,Hq y.1)(hvs:∀y∈vb,Hq y.1)(ho:rG M K vr oa)(hv:vb≠ []->∃bb sp own rest,ba=some ⟨bb,0,sp⟩/\K bb=some (.cells own (vb.flatMap BX++rest)))(hsl:P0 K (.slice ba vb.length bc))(hl:vr.length+vb.length<=1000000)(h:Hp M K []):
  ∃oa' M',Bi Tryz.prog M 22 22 (.slice oa vr.length vr.length) (.slice ba vb.length bc)=some (.slice oa' (vr.length+vb.length) (vr.length+vb.length),M')/\Hp M' K []/\rG M' K (vr++vb) oa':=by
 by_cases e:vb= []
 ·subst e;obtain⟨a,n,c,e1,e2⟩:=hsl;cases e1
  have hf:∃new,Ca M 2 0 (.slice ba 0 bc)=some new:=by
   rcases e2 with rfl|⟨b,sp,own,cs,rfl,e2⟩
   ·exact⟨_,rfl⟩
   ·exact⟨[],FY (c:= []) (by rw[List.nil_append];exact h.get e2) rfl⟩
  obtain⟨new,hf⟩:=hf
  obtain⟨a,rfl⟩:∃a,oa=some a:=by
   rcases ho with⟨_,b,q1,_⟩|⟨c,q1,_⟩
   ·exact⟨_,q1⟩
   ·exact⟨_,q1⟩
  refine⟨some a,M,Qm rfl hf,h,?_⟩;rw[List.append_nil];exact ho
 ·obtain⟨bb,sp,own,rest,rfl,hK⟩:=hv e;have hpos:0<vb.length:=List.length_pos_iff.2 e;have hf:Ca M 2 vb.length (.slice (some ⟨bb,0,sp⟩) vb.length bc)=some (vb.flatMap BX):=FY (h.get hK) (Dd Bo vb);rcases ho with⟨rfl,b,rfl,hg⟩|⟨c,rfl,q2,q3,q4⟩
  ·refine⟨_,M.push (.cells true (vb.flatMap BX)),?_,h.ext (Ext.push _ _), .inr ⟨_,rfl,?_,h.no (Nat.le_refl _),?_⟩⟩
   ·have:=Su hg (x:= .slice (some ⟨bb,0,sp⟩) vb.length bc) rfl hpos (by simpa using hl) hf (Dd Bo vb) (Fu hvs);rw[List.length_nil,Nat.zero_add];exact this
   ·show M.size<M.size+1;omega
   ·rw[Mem.get_push_same];rfl
  ·refine⟨_,_,JP Tryz.underlying22 Yb (by decide) lk (by decide) rF q4 (Dd Bo vr) (Fu hs) (n:=vb.length) rfl hpos (by omega) hf (Dd Bo vb) (Fu hvs),?_, .inr ⟨_,rfl,?_,h.no (Nat.le_refl _),?_⟩⟩
   ·exact(h.ext (Ext.push _ _)).free_set (by show c<M.size+1;omega) q3
   ·show M.size<M.size+1;omega
   ·rw[Mem.get_set_ne _ (by omega),Mem.get_push_same,List.flatMap_append]
theorem Yc{a b:List BA}{ra wa:Option Addr}{rc wc:Nat}(ha:CT K (.slice ra a.length rc) a)(hb:CT K (.slice wa b.length wc) b)(sa:P0 K (.slice ra a.length rc))(sb:P0 K (.slice wa b.length wc))(hl:a.length+b.length<=1000000)(h:Hp M K []):
  ∃v1 M1 v2 M2 K2,Bi Tryz.prog (M.push (.cells true [])) 22 22 (.slice (some ⟨M.size,0,none⟩) 0 0) (.slice ra a.length rc)=some (v1,M1)/\Bi Tryz.prog M1 22 22 v1 (.slice wa b.length wc)=some (.slice v2 (a.length+b.length) (a.length+b.length),M2)/\
   (∀j x,K j=some x->K2 j=some x)/\Hp M2 K2 []/\CT K2 (.slice v2 (a.length+b.length) (a.length+b.length)) (a++b):=by
 have open_:∀{l:List BA} {w:Option Addr} {c:Nat},CT K (.slice w l.length c) l->∃vr:List (Value×BA),vr.map (·.2)=l/\(∀x∈vr,CX K x.1 x.2.tests)/\(vr≠ []->∃bb sp own rest,w=some ⟨bb,0,sp⟩/\K bb=some (.cells own (vr.flatMap BX++rest))):=by
  intro l w c hv;obtain⟨w',c',e1,hv⟩:=hv;cases e1;by_cases e:l= []
  ·subst e;exact⟨[],rfl,λx hx=>by simp at hx,λh0=>absurd rfl h0⟩
  ·obtain⟨bb,sp,own,rest,vr,q1,q2,q3,q4⟩:=hv e;exact⟨vr,q2,q4,λ_=>⟨bb,sp,own,rest,q1,q3⟩⟩
 obtain⟨va,a1,a2,a3⟩:=open_ ha
 obtain⟨vb,b1,b2,b3⟩:=open_ hb
 have la:a.length=va.length:=by rw[←a1,List.length_map]
 have lb:b.length=vb.length:=by rw[←b1,List.length_map]
 rw[la]at sa hl ⊢
 rw[lb]at sb hl ⊢
 have h0:=h.ext (Ext.push M (.cells true []))
 obtain⟨o1,M1,p1,h1,w1⟩:=Qn (vr:= []) (vb:=va) (oa:=some ⟨M.size,0,none⟩) (λy hy=>by simp at hy) (λy hy=>(a2 y hy).slice) (.inl ⟨rfl,_,rfl,Mem.get_push_same _ _⟩) a3 sa (by simp;omega) h0
 rw[List.length_nil,Nat.zero_add]at p1
 rw[List.nil_append]at w1
 obtain⟨o2,M2,p2,h2,w2⟩:=Qn (vr:=va) (vb:=vb) (λy hy=>(a2 y hy).slice) (λy hy=>(b2 y hy).slice) w1 b3 sb hl h1
 have hts:∀x∈va++vb,CX K x.1 x.2.tests:=λx hx=>by
  rcases List.mem_append.1 hx with hx|hx
  ·exact a2 x hx
  ·exact b2 x hx
 have hln:va.length+vb.length=(a++b).length:=by rw[List.length_append,la,lb]
 rcases w2 with⟨e1,bz,e2,e3⟩|⟨c,e1,e2,e3,e4⟩
 ·refine⟨_,M1,o2,M2,K,p1,p2,λ_ _ hj=>hj,h2,o2,va.length+vb.length,by rw[hln],λhne=>?_⟩;have:(a++b).length=0:=by rw[←hln,←List.length_append,e1];rfl
  exact absurd (List.eq_nil_of_length_eq_zero this) hne
 ·have hlearn:=Hp.learn h2 e2 e4 e3;refine⟨_,M1,o2,M2,EE K c (.cells true ((va++vb).flatMap BX)),p1,p2,hlearn.2,hlearn.1,o2,va.length+vb.length,by rw[hln],λhne=>⟨c,some 2,true,[],va++vb,e1,by rw[List.map_append,a1,b1],by rw[BM,List.append_nil],λx hx=>(hts x hx).mono hlearn.2⟩⟩
end
theorem Et:Gn 103:=by
 intro x d v hd
 refine⟨up x [(d,v)],?_⟩
 iterate 103 (rcases d with _|d;· kernel_rfl)
 omega
theorem Eu{d:JO}{o:C1}(f:FuncId)(v:Value)(args:List Value)(m:Mem)(hc:(cB d o).call f=some v)(hs:(cB d o).says f args m v):o f args m=some (v,(cB d o).eff f m):=hs
theorem Dj{k:Nat}{d:JO}(f:FuncId)(hc:(cB d (oL k)).call f=none)(a:List Value)(m:Mem):oL k f a m=none:=
 pX (by rintro rfl;cases hc) (by rintro rfl;cases hc) (by rintro rfl;cases hc) (by rintro rfl;cases hc) (by rintro rfl;cases hc) (by rintro rfl;cases hc) (by rintro rfl;cases hc) a m
theorem xQ:Tryz.prog.funcs[3]?=some Tryz.f3:=by kernel_rfl
theorem bd3:Tryz.f3.body=some c3:=by kernel_rfl
theorem nt3:Tryz.f3.ntmps=103:=by kernel_rfl
theorem xR(x:Nat->Value)(a:Value)(M:Mem):DK Tryz.prog (AB 103 (up x [(4,a)])) M Tryz.f3.results.toList=some [a]:=by kernel_rfl
theorem cC:(items c3).drop 3= .region 3 pZ false::(items c3).drop 4:=by kernel_rfl
theorem Wd(rs:List BA):Fl rs=0\/Fl rs=1\/Fl rs=3:=by
 unfold Fl
 split
 ·split
  ·exact .inr (.inr rfl)
  ·exact .inl rfl
 ·unfold Ee;split
  ·exact .inr (.inr rfl)
  ·cases hc:C9 rs 0 with
   |none=>exact .inl rfl
   |some p=>
    obtain⟨a,e⟩:=p;rcases Hs rs 0 a e hc with rfl|rfl
    ·exact .inr (.inl rfl)
    ·exact .inr (.inr rfl)
theorem tf{ri:Int}(h:ri<0):qz ri true:=by unfold qz;simp[B6,Ba,Bc];omega
theorem tg{ri:Int}(h:¬ri<0):qz ri false:=by unfold qz;simp[B6,Ba,Bc];omega
theorem th{ri:Int}(h:¬ri<0):xP ri:=by unfold xP;simp[B6,Ba,Bc];omega
theorem cD{a b:Int}(h:a=b):jO a b:=by subst h;unfold jO;simp[B6,Ba,Bc]
theorem lW{a b:List Prop}(ha:∀q∈a,q)(hb:∀q∈b,q):∀q∈a++b,q:=λq hq=>by
 rcases List.mem_append.1 hq with h|h
 ·exact ha q h
 ·exact hb q h
theorem T2{m:Mem}{k:Nat}{v pv w:Value}{a b:List BA}{pk:List Int}{port:Int}(hm:dk m)(hTa:dc a k)(hTb:dc b k)(hTab:dc (a++b) k)(hl:a.length+b.length<=1000000)(hv:CT (Bm m) v a)(hw:CT (Bm m) w b)(sv:P0 (Bm m) v)(sw:P0 (Bm m) w)
  (hpk:JU m pv pk) (hb:∀b∈pk,0<=b/\b<256) (hp:0<=port/\port<4294967296):
  ∃M',Cu Tryz.prog kp 1 (ng k) 600 3 [.agg ⟨Yo v pv port⟩,w] m=some (.bool true,M'):=by
 obtain⟨ra,rc,rfl,_⟩:=id hv
 obtain⟨wa,wc,rfl,_⟩:=id hw
 obtain⟨pa,pc,hpv,_⟩:=hpk.as
 subst hpv
 have fin:∀{M':Mem} {x':Nat->Value},AI Tryz.prog kp 1 (ng k) (AV Tryz.prog kp 1 (ng k) 103) 103 600 c3 (AB 103 (Bv [.agg ⟨Yo (.slice ra a.length rc) (.slice pa pk.length pc) port⟩, .slice wa b.length wc])) m=some (.ret,AB 103 (up x' [(4, .bool true)]),M')->∃M',Cu Tryz.prog kp 1 (ng k) 600 3 [.agg ⟨Yo (.slice ra a.length rc) (.slice pa pk.length pc) port⟩, .slice wa b.length wc] m=some (.bool true,M'):=λ{M' x'} h=>
  ⟨M',GP xQ bd3 (by rw[nt3];rfl) h (xR ..)⟩
 have x0:Ext m (qv m (.slice ra a.length rc) (.slice pa pk.length pc) port):=Ext.push _ _
 have z0:m.size< (qv m (.slice ra a.length rc) (.slice pa pk.length pc) port).size:=by show m.size<m.size+1;omega
 have g0:(qv m (.slice ra a.length rc) (.slice pa pk.length pc) port).get m.size= .cells true (Yo (.slice ra a.length rc) (.slice pa pk.length pc) port):=Mem.get_push_same ..
 obtain⟨M0,hM0⟩:∃M0,qv m (.slice ra a.length rc) (.slice pa pk.length pc) port=M0:=⟨_,rfl⟩
 rw[hM0]at x0 z0 g0
 obtain⟨M5,e5,x5⟩:=bq (k:=k) (hm.ext x0) (by have:=hTa.k1;omega)
 have t5:=(hm.ext x0).ext x5
 have gb:∀{M:Mem},Ext M0 M->M.get m.size= .cells true (Yo (.slice ra a.length rc) (.slice pa pk.length pc) port):=λx=>(x.get _ z0).trans g0
 have rv:∀{M:Mem},Ext M0 M->CT (Bm M) (.slice ra a.length rc) a:=λx=>hv.mono (IZ (x0.trans x))
 have rw_:∀{M:Mem},Ext M0 M->CT (Bm M) (.slice wa b.length wc) b:=λx=>hw.mono (IZ (x0.trans x))
 have q5:oL k 5 [] (qv m (.slice ra a.length rc) (.slice pa pk.length pc) port)=some (.bool true,M5):=by rw[hM0];exact e5
 obtain⟨q1,q2⟩:=tZ 600 (oL k) port m M5 (.slice ra a.length rc) (.slice pa pk.length pc) (.slice wa b.length wc)
 obtain⟨x1,h1⟩:=B8 (x:=Bv [.agg ⟨Yo (.slice ra a.length rc) (.slice pa pk.length pc) port⟩, .slice wa b.length wc]) Et rfl Eu Dj q1 q2 (AA q5 AT)
 obtain⟨M6,e6,x6⟩:=WW t5 hTa (rv x5)
 have t6:=t5.ext x6
 have x06:=x5.trans x6
 obtain⟨q1,q2⟩:=p6 x1 (oL k) ra a.length rc m.size M5 M6 (decide (5000<Hf a)) (.slice wa b.length wc)
 obtain⟨x2,h2⟩:=IS Et rfl Eu Dj q1 q2 (AA (WZ (gb x5) rfl) (AA e6 AT))
 have out:∀{x3:Nat->Value} {Mo:Mem},EM Tryz.prog kp 1 (ng k) 103 pZ.toList (pZ.toList.drop 4) (AB 103 (up x2 ([1,2,20].zip [.slice wa b.length wc,BP m.size 0, .bool (decide (5000<Hf a))]))) M6=some (AB 103 (up x3 ([1,2,29].zip [.slice wa b.length wc,BP m.size 0, .bool true])),Mo)->
   ∃M',Cu Tryz.prog kp 1 (ng k) 600 3 [.agg ⟨Yo (.slice ra a.length rc) (.slice pa pk.length pc) port⟩, .slice wa b.length wc] m=some (.bool true,M'):=λ{x3 Mo} h3=>by
  obtain⟨q1,q2⟩:=p8 600 x3 (oL k) m.size Mo (.slice wa b.length wc);obtain⟨x4,h4⟩:=B8 Et rfl Eu Dj q1 q2 AT;exact fin ((PJ 3 c3 cC h1 (Nk 4 h2 h3)).trans (Ji 2 _ (by simp) h4))
 by_cases hlg:5000<Hf a
 ·rw[decide_eq_true hlg]at h2 out;obtain⟨q1,q2⟩:=jL x2 (oL k) m.size M6 (.slice wa b.length wc);obtain⟨x3,h3⟩:=IS Et rfl Eu Dj q1 q2 AT;exact out h3
 rw[decide_eq_false hlg]at h2 out
 obtain⟨M6b,e6b,x6b⟩:=WW t6 hTb (rw_ x06)
 have t6b:=t6.ext x6b
 have x06b:=x06.trans x6b
 by_cases hlb:5000<Hf b
 ·rw[decide_eq_true hlb]at e6b;obtain⟨q1,q2⟩:=jM x2 (oL k) m.size M6 M6b (.slice wa b.length wc);obtain⟨x3,h3⟩:=IS Et rfl Eu Dj q1 q2 (AA e6b AT);exact out h3
 rw[decide_eq_false hlb]at e6b
 by_cases hgt:65535<pk.length
 ·obtain⟨q1,q2⟩:=Wc x2 (oL k) pa pk.length pc m.size M6 M6b true (.slice wa b.length wc);obtain⟨x3,h3⟩:=IS Et rfl Eu Dj q1 q2 (AA e6b (AA (I1 (gb x06b) rfl) (AA (xG hgt) AT)));exact out h3
 clear out
 have hn:pk.length<=65535:=by omega
 obtain⟨q1,q2⟩:=Wc x2 (oL k) pa pk.length pc m.size M6 M6b false (.slice wa b.length wc)
 obtain⟨x3,h3⟩:=IS Et rfl Eu Dj q1 q2 (AA e6b (AA (I1 (gb x06b) rfl) (AA (xH hgt) AT)))
 have hcut:=PJ 3 c3 cC h1 (Nk 4 h2 h3)
 obtain⟨v8,M8,e8,x8,r8⟩:=WX t6b hTa (rv x06b)
 have t8:=t6b.ext x8
 obtain⟨cv,M7,e7,x7,hcv⟩:=WY t8 hTa r8
 have t7:=t8.ext x7
 obtain⟨ca,rfl,hcode⟩:=hcv
 obtain⟨q1,q2⟩:=p9 600 x3 (oL k) ra ca a.length rc (Cy a).length (Cy a).length m.size (Fl a) M6b M8 M7 (.slice wa b.length wc) v8
 obtain⟨x4,h4⟩:=B8 Et rfl Eu Dj q1 q2 (AA (WZ (gb x06b) rfl) (AA e8 (AA e7 (AA bw AT))))
 have hcut2:=hcut.trans (LP 2 _ h4)
 rw[List.drop_drop]at hcut2
 have xI:=W0 M7 (.slice ca (Cy a).length (Cy a).length)
 have gI:=Wa M7 (.slice ca (Cy a).length (Cy a).length)
 have zI':M7.size< (jK M7 (.slice ca (Cy a).length (Cy a).length)).size:=by show M7.size<M7.size+1;omega
 obtain⟨MI,hMI⟩:∃MI,jK M7 (.slice ca (Cy a).length (Cy a).length)=MI:=⟨_,rfl⟩
 rw[hMI]at xI gI zI' hcut2
 have x0I:=((x06b.trans x8).trans x7).trans xI
 have tI:=t7.ext xI
 have hKI:=IZ (x0.trans x0I)
 obtain⟨a1,N1,a2,N2,K2,p1,p2,hw2,hp2,r2⟩:=Yc (rv x0I) (rw_ x0I) (sv.mono hKI) (sw.mono hKI) hl (Hp.all tI.top)
 have xN:Ext MI N2:=lV hp2 hw2
 have tN:=tI.ext xN
 have rN:CT (Bm N2) (.slice a2 (a.length+b.length) (a.length+b.length)) (a++b):=r2.mono λj x hj=>by
  obtain⟨_,hK,_⟩:=hp2;have:=hK j x hj;rw[E4 this.1,this.2]
 obtain⟨w8,N8,f8,y8,s8⟩:=WX tN hTab rN
 have u8:=tN.ext y8
 obtain⟨cv2,N7,f7,y7,hcv2⟩:=WY u8 hTab s8
 have u7:=u8.ext y7
 obtain⟨cb,rfl,hcode2⟩:=hcv2
 have psb:∀q∈ub (oL k) MI m.size (.slice ra a.length rc) (.slice wa b.length wc) a1 (.slice a2 (a.length+b.length) (a.length+b.length)) w8 (.slice cb (Cy (a++b)).length (Cy (a++b)).length) N1 N2 N8 N7 (Fl (a++b)),q:=
  AA (WZ (gb (x0I.trans (Ext.push _ _))) rfl) (AA p1 (AA p2 (AA f8 (AA f7 (AA bw AT)))))
 by_cases hea:Fl a=0
 case neg=>
  obtain⟨q1,q2⟩:=pd 600 x4 (oL k) ra cb a.length rc (Cy (a++b)).length (Cy (a++b)).length m.size M7.size MI N8 N7 N1 N2 (.slice wa b.length wc) a1 (.slice a2 (a.length+b.length) (a.length+b.length)) w8 (Fl a) (Fl (a++b)) (by rcases Wd a with h|h|h<;>omega);obtain⟨x5',h5⟩:=B8 Et rfl Eu Dj q1 q2 psb;exact fin (hcut2.trans (Ji 3 _ (by simp) h5))
 rw[hea]at hcut2
 by_cases hef:Fl (a++b)=0
 case neg=>
  obtain⟨q1,q2⟩:=pe 600 x4 (oL k) ra cb a.length rc (Cy (a++b)).length (Cy (a++b)).length m.size M7.size MI N8 N7 N1 N2 (.slice wa b.length wc) a1 (.slice a2 (a.length+b.length) (a.length+b.length)) w8 (Fl (a++b)) (by rcases Wd (a++b)with h|h|h<;>omega);obtain⟨x5',h5⟩:=B8 Et rfl Eu Dj q1 q2 psb;exact fin (hcut2.trans (Ji 3 _ (by simp) h5))
 rw[hef]at psb
 obtain⟨q1,q2⟩:=pg 600 x4 (oL k) ra cb a.length rc (Cy (a++b)).length (Cy (a++b)).length m.size M7.size MI N8 N7 N1 N2 (.slice wa b.length wc) a1 (.slice a2 (a.length+b.length) (a.length+b.length)) w8
 obtain⟨x6',h6⟩:=B8 Et rfl Eu Dj q1 q2 psb
 have hcut3:=hcut2.trans (LP 3 _ h6)
 rw[List.drop_drop]at hcut3
 have yI:=W0 N7 (.slice cb (Cy (a++b)).length (Cy (a++b)).length)
 have kI:=Wa N7 (.slice cb (Cy (a++b)).length (Cy (a++b)).length)
 obtain⟨NI,hNI⟩:∃NI,jK N7 (.slice cb (Cy (a++b)).length (Cy (a++b)).length)=NI:=⟨_,rfl⟩
 rw[hNI]at yI kI hcut3
 have xIN:Ext MI NI:=((xN.trans y8).trans y7).trans yI
 have x0N:=x0I.trans xIN
 have uI:=u7.ext yI
 have gI':=(xIN.get _ zI').trans gI
 have hRa:=bu (pk:=pk) (port:=port) hea hTa hb hn hp
 have hRb:=bu (pk:=pk) (port:=port) hef hTab hb hn hp
 obtain⟨hF,_⟩:=bt hea hTa
 obtain⟨c,rfl,c1,c2,c3'⟩:=hcode hRa.shape.pos
 obtain⟨c',rfl,d1,d2,d3⟩:=hcode2 hRb.shape.pos
 have hmc:M8.size<=c:=by
  rcases Nat.lt_or_ge c M8.size with h|h
  ·rw[E4 h]at c2;cases c2
  ·exact h
 have hmd:N8.size<=c':=by
  rcases Nat.lt_or_ge c' N8.size with h|h
  ·rw[E4 h]at d2;cases d2
  ·exact h
 have hm8:m.size<=M8.size:=((x0.trans x06b).trans x8).size
 have hn8:m.size<=N8.size:=(((x0.trans x0I).trans xN).trans y8).size
 have hc0:c≠0:=by have:=t8.pos;omega
 have hd0:c'≠0:=by have:=u8.pos;omega
 have xcN:Ext M7 NI:=xI.trans xIN
 have e9:oL k 9 [.agg ⟨I0 (.slice (some ⟨c,0,some 5⟩) (Cy a).length (Cy a).length)⟩, .slice pa pk.length pc, .int .u32 port] NI=some (.tuple ⟨[.int .u64 (Bt pk port a), .bool true]⟩,NI):=by
  rw[tQ];exact PV hRa uI.top uI.gl0 uI.pos (Nat.lt_of_lt_of_le c1 xcN.size) hc0 ((xcN.get c c1).trans c3') (hpk.to (x0.trans x0N) (by omega))
 have e9b:oL k 9 [.agg ⟨I0 (.slice (some ⟨c',0,some 5⟩) (Cy (a++b)).length (Cy (a++b)).length)⟩, .slice pa pk.length pc, .int .u32 port] NI=some (.tuple ⟨[.int .u64 (Bt pk port (a++b)), .bool true]⟩,NI):=by
  rw[tQ];exact PV hRb uI.top uI.gl0 uI.pos (Nat.lt_of_lt_of_le d1 yI.size) hd0 ((yI.get c' d1).trans d3) (hpk.to (x0.trans x0N) (by omega))
 have e10:oL k 10 [.slice ra a.length rc, .slice pa pk.length pc, .int .u32 port] NI=some (.tuple ⟨[.int .u32 (Bt pk port a), .int .i64 (EG pk port a 0)]⟩,NI):=by
  rw[tR];exact Qc (uI.srv (hpk.ext (x0.trans x0N))) hb hn hp hF (rv x0N) (by decide)
 have gbN:=gb x0N
 obtain⟨q1,q2⟩:=td 600 x6' (oL k) pa (some ⟨c,0,some 5⟩) pk.length pc (Cy a).length (Cy a).length m.size M7.size N7.size port (Bt pk port a) NI (.slice wa b.length wc)
 obtain⟨x7',h7⟩:=B8 Et rfl Eu Dj q1 q2 (AA (by unfold jN;rw[gI'];exact Q9 rfl) (AA (I1 gbN rfl) (AA (I1 gbN rfl) (AA e9 AT))))
 have hcut4:=hcut3.trans (LP 1 _ h7)
 rw[List.drop_drop]at hcut4
 have psd:∀q∈xM (oL k) NI m.size N7.size (.slice ra a.length rc) (.slice pa pk.length pc) (.slice (some ⟨c',0,some 5⟩) (Cy (a++b)).length (Cy (a++b)).length) port (Bt pk port (a++b)) (Bt pk port a) (EG pk port a 0),q:=
  AA (by unfold jN;rw[kI];exact Q9 rfl) (AA (I1 gbN rfl) (AA (I1 gbN rfl) (AA e9b (AA (WZ gbN rfl) (AA (I1 gbN rfl) (AA (I1 gbN rfl) (AA e10 AT)))))))
 by_cases hwh:EG pk port a 0<0
 ·obtain⟨q1,q2⟩:=ph 600 x7' (oL k) ra pa (some ⟨c',0,some 5⟩) a.length rc pk.length pc (Cy (a++b)).length (Cy (a++b)).length m.size M7.size N7.size port (Bt pk port a) (Bt pk port (a++b)) (Bt pk port a) (EG pk port a 0) NI (.slice wa b.length wc);obtain⟨x8',h8⟩:=B8 Et rfl Eu Dj q1 q2 (lW psd (AA (tf hwh) (AA (cD (O2 pk port a 0 hwh).1) AT)));exact fin (hcut4.trans h8)
 ·obtain⟨q1,q2⟩:=pj 600 x7' (oL k) ra pa (some ⟨c',0,some 5⟩) a.length rc pk.length pc (Cy (a++b)).length (Cy (a++b)).length m.size M7.size N7.size port (Bt pk port a) (Bt pk port (a++b)) (Bt pk port a) (EG pk port a 0) NI (.slice wa b.length wc);obtain⟨x8',h8⟩:=B8 Et rfl Eu Dj q1 q2 (lW psd (AA (tg hwh) (AA (th hwh) (AA (cD (Ju pk port a 0 (by omega) b).symm) AT))));exact fin (hcut4.trans h8)
end
end Go.Proofs.YtgjflcgmieiafaaGreatDoor
