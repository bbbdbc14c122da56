/- CompileMore answers true: rules behind one that matches say nothing, for any table, other table, packet and port of the stated bulk. Conditions: those of the given row and its card (the variable insn.sizes is laid as its initialiser says; bulk at most 1048576). -/
import Derived.Test.YtgjflcgmieiafaaGreatDoorN02
import Derived.IntWalk
import Derived.Test.YtgjflcgmieiafaaGreatDoorChecked
set_option linter.all false
set_option linter.unusedVariables false
set_option linter.unusedSimpArgs false
namespace Go.DI
def Free(v:Value):Prop:=∀(ι κ:Ren) (v':Value),AZ ι v v'->AZ κ v v'
theorem Free.sim{v:Value}(h:Free v)(ρ:Nat->Nat)(k:Nat->Bool):QH ρ k v v:=λι v' g=>h ι _ v' g
theorem Free.emb{v:Value}(h:Free v)(ρ:Nat->Nat):Rc ρ v v:=λι κ v' _ g=>h ι κ v' g
theorem Cn(k:IntKind)(n:Int):Free (.int k n):=λ_ _ _ h=>by cases h;constructor
theorem De(b:Bool):Free (.bool b):=λ_ _ _ h=>by cases h;constructor
theorem Lj(b:ByteArray):Free (.string b):=λ_ _ _ h=>by cases h;constructor
theorem Ox:Free (.pointer none):=λ_ _ _ h=>by cases h;constructor
theorem EB(n c:Nat):Free (.slice none n c):=λ_ _ _ h=>by cases h;constructor
theorem ZJ{a:Array Value}(h:∀x∈a.toList,Free x):Free (.agg a):=λι κ v' g=>by
 cases g with
 |agg _ a' hs hr=>
  refine .agg _ _ hs λi x y hx hy=>h x ?_ ι κ y (hr i x y hx hy);exact Array.mem_toList_iff.2 (Array.mem_of_getElem? hx)
theorem FD{a:Array Value}(h:∀x∈a.toList,Free x):Free (.tuple a):=λι κ v' g=>by
 cases g with
 |tuple _ a' hs hr=>
  refine .tuple _ _ hs λi x y hx hy=>h x ?_ ι κ y (hr i x y hx hy);exact Array.mem_toList_iff.2 (Array.mem_of_getElem? hx)
section
variable{ρ:Nat->Nat}{k:Nat->Bool}
theorem Ren.sub_some{ι:Ren}{i:Nat}{L:Loc}(hi:k i=true)(h:ι (ρ i)=some L):(ι.sub ρ k) i=some L:=by simp only[Ren.sub,hi,if_true];exact h
theorem VS{i o:Nat}(hi:k i=true):QH ρ k (.pointer (some ⟨i,o,none⟩)) (.pointer (some ⟨ρ i,o,none⟩)):=λι v' g=>by
 cases g with
 |ptr _ _ L h=>exact .ptr _ _ L (Ren.sub_some hi h)
theorem ga{i o:Nat}:Rc ρ (.pointer (some ⟨i,o,none⟩)) (.pointer (some ⟨ρ i,o,none⟩)):=λι κ v' hm g=>by
 cases g with
 |ptr _ _ L h=>exact .ptr _ _ L (hm _ _ h)
theorem QI{i o n c:Nat}(hi:k i=true):QH ρ k (.slice (some ⟨i,o,none⟩) n c) (.slice (some ⟨ρ i,o,none⟩) n c):=λι v' g=>by
 cases g with
 |slc _ _ _ _ L h=>exact .slc _ _ _ _ L (Ren.sub_some hi h)
theorem VT{i o n c:Nat}:Rc ρ (.slice (some ⟨i,o,none⟩) n c) (.slice (some ⟨ρ i,o,none⟩) n c):=λι κ v' hm g=>by
 cases g with
 |slc _ _ _ _ L h=>exact .slc _ _ _ _ L (hm _ _ h)
theorem EC{i o e n c:Nat}(hi:k i=true):QH ρ k (.slice (some ⟨i,o,some e⟩) n c) (.slice (some ⟨ρ i,o,some e⟩) n c):=λι v' g=>by
 cases g with
 |loose _ _ _ _ _ _ L h hc ht=>exact .loose _ _ _ _ _ _ L (Ren.sub_some hi h) hc ht
 |loose0 _ _ _ _ _ L h ht=>exact .loose0 _ _ _ _ _ L (Ren.sub_some hi h) ht
 |empty=>exact .empty _ _ _ _
theorem Xg{i o e n c:Nat}:Rc ρ (.slice (some ⟨i,o,some e⟩) n c) (.slice (some ⟨ρ i,o,some e⟩) n c):=λι κ v' hm g=>by
 cases g with
 |loose _ _ _ _ _ _ L h hc ht=>exact .loose _ _ _ _ _ _ L (hm _ _ h) hc ht
 |loose0 _ _ _ _ _ L h ht=>exact .loose0 _ _ _ _ _ L (hm _ _ h) ht
 |empty=>exact .empty _ _ _ _
theorem Xh(b:BI):QJ ρ k .none b:=⟨λh=>h.elim,λh=>by simp[BI.own]at h,λ_ _ _ _ _=>trivial⟩
theorem Xi(bs:BI):Td ρ bs .none:=⟨λh=>h.elim,λh=>by simp[BI.own]at h,λ_ _ _ _ _ _ _=>trivial⟩
theorem NM{o:Bool}{cs c:List Value}(hl:cs.length=c.length)(h:∀(i:Nat) (x y:Value),cs[i]?=some x->c[i]?=some y->QH ρ k x y):QJ ρ k (.cells o cs) (.cells o c):=by
 refine⟨λ_=>trivial,id,λB0 ι L w=>?_⟩
 rintro⟨rc,e,fr,h1,h2,h3,h4,h5⟩
 refine⟨rc,e,fr,h1,h2,by omega,λi v hv=>?_,h5⟩
 have hi:i<c.length:=by have:=(List.getElem?_eq_some_iff.1 hv).1;omega
 obtain⟨v',g1,g2⟩:=h4 i c[i] (List.getElem?_eq_getElem hi)
 exact⟨v',g1,h i v c[i] hv (List.getElem?_eq_getElem hi) ι v' g2⟩
theorem NN{o:Bool}{cs c:List Value}(hl:cs.length=c.length)(h:∀(i:Nat) (x y:Value),cs[i]?=some x->c[i]?=some y->Rc ρ x y):Td ρ (.cells o cs) (.cells o c):=by
 refine⟨λ_=>trivial,id,λB0 ι κ L w hm=>?_⟩
 rintro⟨rc,e,fr,h1,h2,h3,h4,h5⟩
 refine⟨rc,e,fr,h1,h2,by omega,λi v hv=>?_,h5⟩
 have hi:i<cs.length:=by have:=(List.getElem?_eq_some_iff.1 hv).1;omega
 obtain⟨v',g1,g2⟩:=h4 i cs[i] (List.getElem?_eq_getElem hi)
 exact⟨v',g1,h i cs[i] v (List.getElem?_eq_getElem hi) hv ι κ v' hm g2⟩
theorem FG{o:Bool}{c:List Value}(h:∀x∈c,Free x):QJ ρ k (.cells o c) (.cells o c):=
 NM rfl λi x y hx hy=>by
  rw[hx]at hy;cases hy;exact(h x (List.mem_of_getElem? hx)).sim ρ k
theorem Il{o:Bool}{c:List Value}(h:∀x∈c,Free x):Td ρ (.cells o c) (.cells o c):=
 NN rfl λi x y hx hy=>by
  rw[hx]at hy;cases hy;exact(h x (List.mem_of_getElem? hx)).emb ρ
end
end Go.DI
namespace Go.DI
open Go.RowKit
noncomputable section
theorem nr{p:Prop}(h:p):p:=by
 by_cases hp:p
 ·exact hp
 ·exact absurd h hp
section
variable{α:Type}
theorem AH{β:Type}(a b:β):cond true a b=a:=nr rfl
theorem BH{β:Type}(a b:β):cond false a b=b:=nr rfl
theorem Kl(v:Value)(m:Mem)(q:Value->Mem->Option α):Ev (some (v,m)) q=q v m:=nr rfl
theorem HS(b:Bool)(q:Bool->Option α)(d:Option α):Y.asBo (.bool b) q d=q b:=nr rfl
theorem P6(a:Array Value)(q:Array Value->Option α):Y.asTup (.tuple a) q=q a:=nr rfl
theorem Mb(a:Value)(l:List Value)(q:Value->List Value->Option α)(d:Option α):Y.unc (a::l) q d=q a l:=nr rfl
theorem Up(q:Value->List Value->Option α)(d:Option α):Y.unc [] q d=d:=nr rfl
theorem BF(k:IntKind)(n:Int)(q:IntKind->Int->Option α)(d:Option α):Y.asInt (.int k n) q d=q k n:=nr rfl
theorem Dk(a:Option Addr)(n c:Nat)(q:Option Addr->Nat->Nat->Option α)(d:Option α):Y.asSl (.slice a n c) q d=q a n c:=nr rfl
theorem kj(a:Option Addr)(q:Option Addr->Option α)(d:Option α):Y.asPt (.pointer a) q d=q a:=nr rfl
theorem mr(a:Array Value)(q:Array Value->Option α)(d:Option α):Y.asAgg (.agg a) q d=q a:=nr rfl
theorem CN(k:IntKind):Y.kEq k k=true:=by cases k<;>rfl
theorem BN{β γ:Type}(a:β)(d:γ)(f:β->γ):Option.elim (some a) d f=f a:=nr rfl
theorem AR(o:Bool)(c:List Value)(q:Bool->List Value->Option α):Y.cellsOf (.cells o c) q=q o c:=nr rfl
theorem EH(n:Nat)(q:Nat->Option α):Y.onNat (n:Int) q=q n:=nr rfl
theorem sG(e:Ex)(t:AF)(m:Mem)(q:Y.ExK α):Y.onE (some (e,t,m)) q=q e t m:=nr rfl
theorem ke(df:EV)(f:FuncId)(a:List Value)(m:Mem)(q:Value->Mem->Option α):Y.cfOf df f a m q=Ev (df f a m) q:=nr rfl
end
namespace Kit
theorem Bs{a b:Int}(h:a≠b):Y.eqF a b=false:=by rw[Y.eqF_eq];simp[h]
theorem Bp{a b:Int}(h:a=b):Y.eqF a b=true:=by rw[Y.eqF_eq];simp[h]
theorem Ef{a b:Int}(h:a<b):Y.ltF a b=true:=by rw[Y.ltF_eq];simp[h]
theorem Cg{a b:Int}(h:¬a<b):Y.ltF a b=false:=by rw[Y.ltF_eq];simp[h]
theorem ET{i n:Nat}(h:i<n):Y.ltF (i:Int) (Int.ofNat n)=true:=Ef (by show(i:Int)< (n:Int);omega)
theorem Gh{i n:Nat}(h:¬i<n):Y.ltF (i:Int) (Int.ofNat n)=false:=Cg (by show¬(i:Int)< (n:Int);omega)
theorem Fg{a b:Nat}(h:a<b):Nat.blt a b=true:=by simpa[Nat.blt_eq]using h
theorem wrap64{x:Int}(h: -9223372036854775808<=x/\x<=9223372036854775807):IntKind.wrap .i64 x=x:=IntWalk.i64_in _ h
theorem Ct{i:Nat}(h:i<=1000000000):IntKind.wrap .i64 (Int.add (i:Int) (1:Int))=((i+1:Nat):Int):=IntWalk.i64_in _ (by show _<=(i:Int)+1/\(i:Int)+1<=_;omega)
theorem Ck{body:AF->Mem->Option (Ex×AF×Mem)}{t t':AF}{m m':Mem}(k:Nat)(h:body t m=some (.normal,t',m')):BT body (k+1) t m=BT body k t' m':=by simp only[BT,h]
theorem CY{body:AF->Mem->Option (Ex×AF×Mem)}{t t':AF}{m m':Mem}{e:Ex}(k:Nat)(h:body t m=some (e,t',m'))(he:e≠ .normal):BT body (k+1) t m=some (e,t',m'):=by
 simp only[BT,h]
 cases e with
 |normal=>exact absurd rfl he
 |exit id=>rfl
 |ret=>rfl
section
variable{P:Program}{K:TypeId->Bool}{G:Nat}
theorem Rl{f:FuncId}{v:Value}{m:Mem}(h:I5 P f v=true):PD P f (some (v,m))=some (v,m):=by simp only[PD,h,cond_true]
theorem ew{o:C1}{k:Nat}{f:FuncId}{a:List Value}{m m':Mem}{v:Value}(hk:1<=k)(h:o f a m=some (v,m'))(hok:I5 P f v=true):AJ P K G o k f a m=some (v,m'):=by
 obtain⟨k,rfl⟩:∃k',k=k'+1:=⟨k - 1,by omega⟩
 simp only[AJ,h,Rl hok]
theorem CJ{o:C1}{k:Nat}{f:FuncId}{fn:Func}{c:Code}{args:List Value}{m m':Mem}{v:Value}(n:Nat)(ho:o f args m=none)(hf:P.funcs[f]?=some fn)(hc:fn.body=some c)(hn:max args.length fn.ntmps=n)
  (h:Y.codeF c P K G (Y.cfT P (Y.cfOf (AJ P K G o k))) (Y.lpOf P K G (AJ P K G o k) n) n k (AB n (Bv args)) m (Y.retF P fn λv m=>some (v,m))=some (v,m')) (hok:I5 P f v=true):
  AJ P K G o (k+1) f args m=some (v,m'):=by
 simp only[AJ,ho]
 rw[Y.body_eq (Y.callN_typed P K G o k) (c:=c) (fn:=fn) n hf hc args hn,h,Rl hok]
theorem Ei{o:C1}{k:Nat}{n:Nat}{c:Code}{t t':AF}{m m':Mem}{e:Ex} (h:Y.codeF c P K G (Y.cfT P (Y.cfOf (AJ P K G o k))) (Y.lpOf P K G (AJ P K G o k) n) n k t m Y.q0=some (e,t',m')):
  AI P K G (AJ P K G o k) (AV P K G (AJ P K G o k) n) n k c t m=some (e,t',m'):=
 (Y.step_eq P K G (Y.callN_typed P K G o k) n k c t m).trans h
end
structure Ext(m m':Mem):Prop where
 size:m.size<=m'.size
 get:∀j,j<m.size->m'.get j=m.get j
 top:m.top->m'.top
theorem Ext.refl(m:Mem):Ext m m:=⟨Nat.le_refl _,λ_ _=>rfl,id⟩
theorem Ext.trans{a b c:Mem}(h:Ext a b)(k:Ext b c):Ext a c:=⟨Nat.le_trans h.size k.size,λj hj=>(k.get j (Nat.lt_of_lt_of_le hj h.size)).trans (h.get j hj),λt=>k.top (h.top t)⟩
theorem Ext.push(m:Mem)(x:BI):Ext m (m.push x):=⟨by simp,λj hj=>Mem.get_push_ne _ (by omega) _,λt j hj=>by
 simp at hj
 rw[Mem.get_push_ne _ (by omega)];exact t j (by omega)⟩
structure Y6(F:List Nat)(m m':Mem):Prop where
 size:m.size<=m'.size
 get:∀j,j<m.size->j∉F->m'.get j=m.get j
 top:m.top->m'.top
theorem Y6.refl(F:List Nat)(m:Mem):Y6 F m m:=⟨Nat.le_refl _,λ_ _ _=>rfl,id⟩
theorem Y6.trans{F F':List Nat}{a b c:Mem}(h:Y6 F a b)(k:Y6 F' b c)(hF:∀j∈F',j<a.size->j∈F):Y6 F a c:=
 ⟨Nat.le_trans h.size k.size,λj hj hn=>(k.get j (Nat.lt_of_lt_of_le hj h.size) λhm=>hn (hF j hm hj)).trans (h.get j hj hn),λt=>k.top (h.top t)⟩
theorem Ext.upd{m m':Mem}(h:Ext m m')(F:List Nat):Y6 F m m':=⟨h.size,λj hj _=>h.get j hj,h.top⟩
theorem Y6.mono{F F':List Nat}{m m':Mem}(h:Y6 F m m')(hF:∀j∈F,j∈F'):Y6 F' m m':=⟨h.size,λj hj hn=>h.get j hj λhm=>hn (hF j hm),h.top⟩
theorem Y6.set{m:Mem}{b:Nat}{x:BI}(hb:b<m.size):Y6 [b] m (m.set b x):=⟨Nat.le_refl _,λj _ hn=>Mem.get_set_ne _ (by simpa using hn) _,λt j hj=>by
 have hj:m.size<=j:=hj
 rw[Mem.get_set_ne _ (by omega)];exact t j hj⟩
theorem FY{m:Mem}{b n:Nat}{own:Bool}{c rest:List Value}(hm:m.get b= .cells own (c++rest))(hn:c.length=n):DB m b 0 n=some c:=by
 subst hn
 unfold DB
 rw[hm]
 simp
theorem Ce{P:Program}{m:Mem}{t:TypeId}{v:Value}{b off n:Nat}{c:List Value}(hs:Bz P t=some n)(hv:v.cells.toList.length=n)(hg:m.get b= .cells true c)(ho:off+n<=c.length)(h1:v.cells.toList.all one=true):
  Bx P m t v (.pointer (some ⟨b,off,none⟩))=some (m.set b (.cells true (splice c off v.cells.toList))):=by
 unfold Bx
 rw[hs]
 simp only[hv,if_true]
 unfold EX
 rw[hg]
 simp only[hv]
 rw[if_pos ho,h1,if_pos rfl]
section
variable{P:Program}{t e:TypeId}{z by_:Nat}
theorem append_nil{m:Mem}{x:Value}{n:Nat}{new:List Value}(hu:P.underlying t=some (.slice e))(hs:Bz P e=some z)(hz:z≠0)(hb:bytesOf P e=some by_)(hb0:0<by_)(h0:(Df P e 1).isSome=true)
  (hl:lenOf x=some n) (hn:0<n) (hbig:n*by_<=140737488355328/\n<=4611686018427387904) (hf:Ca m z n x=some new) (hnl:new.length=n*z) (h1:new.all one=true):
  Bi P m t t (.slice none 0 0) x=some (.slice (some ⟨m.size,0,some z⟩) n n,m.push (.cells true new)):=by
 have hf0:Ca m z 0 (.slice none 0 0)=some []:=rfl
 unfold Bi
 simp only[hu,hs,hb,hl,hf,hf0]
 rw[if_neg hz,if_neg (by omega),if_pos ⟨by rw[Nat.zero_add];exact hbig.1,by omega,hb0,h0⟩,if_pos ⟨by rw[h1];rfl,by simp,hnl⟩]
 simp
theorem JP{m:Mem}{bk k n:Nat}{x:Value}{old new:List Value}(hu:P.underlying t=some (.slice e))(hs:Bz P e=some z)(hz:z≠0)(hb:bytesOf P e=some by_)(hb0:0<by_)(h0:(Df P e 1).isSome=true)
  (hg:m.get bk= .cells true old) (hol:old.length=k*z) (h2:old.all one=true)
  (hl:lenOf x=some n) (hn:0<n) (hbig:(k+n)*by_<=140737488355328/\k+n<=4611686018427387904) (hf:Ca m z n x=some new) (hnl:new.length=n*z) (h1:new.all one=true):
  Bi P m t t (.slice (some ⟨bk,0,some z⟩) k k) x=some (.slice (some ⟨m.size,0,some z⟩) (k+n) (k+n),(m.push (.cells true (old++new))).set bk .none):=by
 have hf0:Ca m z k (.slice (some ⟨bk,0,some z⟩) k k)=some old:=FY (rest:= []) (by rw[List.append_nil];exact hg) hol
 unfold Bi
 simp only[hu,hs,hb,hl,hf,hf0]
 rw[if_neg hz,if_neg (by omega),if_pos ⟨hbig.1,by omega,hb0,h0⟩,if_pos ⟨by rw[h1,h2];rfl,hol,hnl⟩,if_pos trivial]
 simp only[hg]
end
section
variable{α:Type}
def RB:Code->Bool
 | .region _ _ _=>true
 |_=>false
def D3(s:List Nat):Code->Code
 | .region i ops d=>cond (s.any (Nat.beq i)) (.loop (.region i ops d)) (.region i ops d)
 | .seq a b=> .seq (D3 s a) (D3 s b)
 | .cond c a b=> .cond c (D3 s a) (D3 s b)
 | .block j c=> .block j (D3 s c)
 |c=>c
def ON:Code->Bool
 | .region _ _ _=>true
 | .seq a b=>ON a && ON b
 | .cond _ a b=>ON a && ON b
 | .block _ c=>ON c
 | .loop c=> !RB c
 | .skip=>true
 | .exit _=>true
 | .ret=>true
 |_=>false
def Gj(L:Y.LK α):Y.LK α:=λbody c k t m q=>cond (RB c) (body t m q) (L body c k t m q)
theorem Z3(L:Y.LK α)(body:AF->Mem->Y.ExK α->Option α){c:Code}(h:RB c=true)(k:Nat)(t:AF)(m:Mem)(q:Y.ExK α):Gj L body c k t m q=body t m q:=by unfold Gj;rw[h];rfl
theorem E5(L:Y.LK α)(body:AF->Mem->Y.ExK α->Option α){c:Code}(h:RB c=false)(k:Nat)(t:AF)(m:Mem)(q:Y.ExK α):Gj L body c k t m q=L body c k t m q:=by unfold Gj;rw[h];rfl
theorem BW(s:List Nat)(P:Program)(K:TypeId->Bool)(G:Nat)(cf:Y.CF α)(L:Y.LK α)(hL:∀b b' c k t m q,L b c k t m q=L b' c k t m q)(n k:Nat):∀(c:Code),ON c=true->∀(t:AF) (m:Mem) (q:Y.ExK α),Y.codeF c P K G cf L n k t m q=Y.codeF (D3 s c) P K G cf (Gj L) n k t m q:=by
 intro c
 induction c with
 |skip=>intros;rfl
 |exit=>intros;rfl
 |ret=>intros;rfl
 |region i ops d=>
  intro _ t m q;unfold D3;cases s.any (Nat.beq i)<;>rfl
 |seq a b ia ib=>
  intro h t m q;simp only[ON,Bool.and_eq_true]at h;refine(ia h.1 ..).trans ?_;show _=Y.codeF (D3 s a) P K G cf (Gj L) n k t m λe t m=>Ex.rec (motive:=λ_=>Option α) (Y.codeF (D3 s b) P K G cf (Gj L) n k t m q) (λid=>q (.exit id) t m) (q .ret t m) e;congr 1;funext e t m;cases e with
  |normal=>exact ib h.2 ..
  |exit=>rfl
  |ret=>rfl
 |cond c a b ia ib=>
  intro h t m q;simp only[ON,Bool.and_eq_true]at h;show Y.evF c G t (λv=>Y.asBool v (Y.codeF a P K G cf L n k t m q) (Y.codeF b P K G cf L n k t m q))=Y.evF c G t (λv=>Y.asBool v (Y.codeF (D3 s a) P K G cf (Gj L) n k t m q) (Y.codeF (D3 s b) P K G cf (Gj L) n k t m q));rw[ia h.1,ib h.2]
 |block j c ic=>
  intro h t m q;simp only[ON]at h;exact ic h ..
 |loop c ic=>
  intro h t m q;simp only[ON,Bool.not_eq_true']at h;show L (λt m q=>Y.codeF c P K G cf L n k t m q) c k t m q=Gj L (λt m q=>Y.codeF c P K G cf (Gj L) n k t m q) c k t m q;rw[E5 _ _ h];exact hL _ _ _ _ _ _ _
 |_=>intro h;cases h
theorem Rm(P:Program)(K:TypeId->Bool)(G:Nat)(cf:Y.CF α)(n:Nat)(ops l2:List Oper)(q:AF->Mem->Option α):∀(l1:List Oper) (t:AF) (m:Mem),Y.opsF (l1++l2) P K G cf n ops t m q=Y.opsF l1 P K G cf n ops t m λt m=>Y.opsF l2 P K G cf n ops t m q
 | [],t,m=>rfl
 |o::l,t,m=>by
  have ih:=Rm P K G cf n ops l2 q l
  show Bool.rec (motive:=λ_=>Option α) none (Bool.rec (motive:=λ_=>Option α) (Y.putOF t o.dst undef λt'=>Y.opsF (l++l2) P K G cf n ops t' m q)
   (Y.opF o.op P K G cf t m λv m'=>Y.putOF t o.dst v λt'=>Y.opsF (l++l2) P K G cf n ops t' m' q) (Y.wantF o ops t)) (Y.dstF n o.dst)=_
  simp only[ih];rfl
theorem By(i:Nat)(P:Program)(K:TypeId->Bool)(G:Nat)(cf:Y.CF α)(n:Nat)(l ops:List Oper)(q:AF->Mem->Option α)(t:AF)(m:Mem):Y.opsF l P K G cf n ops t m q=Y.opsF (l.take i) P K G cf n ops t m λt m=>Y.opsF (l.drop i) P K G cf n ops t m q:=by
 rw[←Rm,List.take_append_drop]
end
end Kit
end
end Go.DI
namespace Go.DI
namespace Kit
noncomputable section
def KV(M:Mem)(d:Nat):Mem:=⟨λj=>if j<M.size then M.get j else .none, .nil,M.size+d⟩
theorem FK(M:Mem)(d j:Nat):(KV M d).get j=if j<M.size then M.get j else .none:=by simp only[Mem.get,KV,Tr.get_nil]
theorem PH(M:Mem)(d:Nat):(KV M d).top:=λj hj=>by
 have hj:M.size+d<=j:=hj
 rw[FK,if_neg (by omega)]
theorem XH(M:Mem)(d:Nat):Ext M (KV M d):=⟨by show M.size<=M.size+d;omega,λj hj=>by rw[FK,if_pos hj],λ_=>PH M d⟩
def mG(gl:List Value):Mem:=m0.push (.cells false gl)
theorem mG_get(gl:List Value):(mG gl).get 0= .cells false gl:=Mem.get_push_same _ _
theorem mG_size(gl:List Value):(mG gl).size=1:=rfl
theorem mG_top(gl:List Value):(mG gl).top:=λj hj=>by
 have hj:1<=j:=hj
 unfold mG
 rw[Mem.get_push_ne _ (by show j≠0;omega)]
 rfl
theorem Nf{ρ:Nat->Nat}{A:Nat->Bool}:∀{l:List Value},(∀x∈l,Free x)->HO ρ A l l
 | [],_=> .nil
 |x::l,h=> .cons ((h x (List.mem_cons_self ..)).sim ρ A) (Nf λy hy=>h y (List.mem_cons_of_mem _ hy))
section
variable(P:Program)(K:TypeId->Bool)(gl:List Value)
open Classical in
def Pj(R:FuncId->List Value->Mem->Option (Value×Mem))(f:FuncId)(args:List Value)(M:Mem):Option (Value×Mem):=
 if M.top/\1<=M.size/\M.get 0= .cells false gl/\∀x∈args,Free x then
  match R f args (mG gl)with
  |some (v,m)=>if Free v/\m.get 0= .cells false gl then some (v,KV M (m.size - 1))else none
  |none=>none
 else none
end
variable{P:Program}{K:TypeId->Bool}{gl:List Value}
def wS(M:Mem)(i:Nat):Nat:=match i with|0=>0|i+1=>M.size+i
theorem VG{B0:Nat}{R:FuncId->List Value->Mem->Option (Value×Mem)}(hg:∀x∈gl,Free x)(hR:CR P B0 1 R)(hRg:B5 R)
  {f:FuncId} {args:List Value} {M M':Mem} {v:Value} (h:Pj gl R f args M=some (v,M')):EI P B0 1 f args M v M'/\EL M M':=by
 unfold Pj at h
 split at h<;>try (simp at h;done)
 rename_i hc
 obtain⟨ht,h1,h0,ha⟩:=hc
 split at h<;>try (simp at h;done)
 rename_i v0 m hrun
 split at h<;>simp at h
 rename_i hv
 obtain⟨hv,h00⟩:=hv
 obtain⟨rfl,rfl⟩:=h
 have hgr:=hRg _ _ _ _ _ hrun
 have hsz:=hgr.size
 rw[mG_size]at hsz
 have hA:∀i:Nat,Nat.beq i 0=true->i=0:=λi hi=>Nat.eq_of_beq_eq_true hi
 have hloc:Local (wS M) (λi=>Nat.beq i 0) (mG gl) m M (KV M (m.size - 1)):=by
  refine⟨λi hi=>(by rw[hA i hi,mG_size];omega),hgr,mG_top gl,PH M _,λi hi=>(by rw[hA i hi];exact h1),λi j hi hj _ _ _=>(by rw[hA i hi,hA j hj]),λi h1 _=>?_,(by rw[mG_size];rfl),λi hi=>?_,λi h1 h2=>?_,λj hj _=>?_⟩
  ·rw[mG_size]at h1 ⊢;obtain⟨k,rfl⟩:∃k,i=k+1:=⟨i - 1,by omega⟩;rfl
  ·rw[hA i hi,mG_get];show QJ _ _ _ (M.get 0);rw[h0];exact FG hg
  ·by_cases hi:i=0
   ·subst hi;right;rw[h00];show Td _ _ ((KV M _).get 0);rw[FK,if_pos (by omega),h0];exact Il hg
   ·left;obtain⟨k,rfl⟩:∃k,i=k+1:=⟨i - 1,by omega⟩;show(KV M _).get (M.size+k)=_;rw[FK,if_neg (by omega)]
  ·rw[FK,if_pos hj]
 refine⟨aK 1 (λg hg=>⟨hg,by
  obtain rfl:g=0:=by omega
  rfl,by
   obtain rfl:g=0:=by omega
   rfl⟩) (hR.ok _ _ _ _ _ hrun) hloc (Nf ha) (hv.emb _),⟨by show M.size<=M.size+_;omega,λ_=>hloc.top',λj hj hl=>?_,λj hj ho=>?_⟩⟩
 ·rw[FK,if_pos hj]at hl;exact hl
 ·rw[FK,if_pos hj]at ho;exact ho
theorem ey{R:FuncId->List Value->Mem->Option (Value×Mem)}{f:FuncId}{args:List Value}{M m:Mem}{v:Value}(ht:M.top)(h1:1<=M.size)(h0:M.get 0= .cells false gl)(ha:∀x∈args,Free x)(h:R f args (mG gl)=some (v,m))(hv:Free v)(h00:m.get 0= .cells false gl):
  Pj gl R f args M=some (v,KV M (m.size - 1)):=by
 unfold Pj
 rw[if_pos ⟨ht,h1,h0,ha⟩,h]
 exact if_pos ⟨hv,h00⟩
theorem eu{k:Nat}{f:FuncId}{args:List Value}{m:Mem}{v:Value}{b:BI}(h:Y.callK P K 1 k f args m (λv m=>some (v,m.get 0))=some (v,b)):∃m',DH P K 1 k f args m=some (v,m')/\m'.get 0=b:=by
 rw[Y.callK_eq]at h
 cases hc:DH P K 1 k f args m with
 |none=>rw[hc]at h;cases h
 |some r=>
  obtain⟨v',m'⟩:=r;rw[hc]at h;have h:=Option.some.inj h;cases h;exact⟨m',rfl,rfl⟩
end
end Kit
end Go.DI
namespace Go.Cmp
open Go Go.DI
structure B9 where
 op:Int
 dst:Int
 src:Int
 off:Int
 imm:Int
 deriving DecidableEq
def B9.zero:B9:=⟨0,0,0,0,0⟩
def AU(x:B9):List Value:= [.int .u8 x.op, .int .u8 x.dst, .int .u8 x.src, .int .i16 x.off, .int .i32 x.imm]
structure A8 where
 neg:Bool
 kind:Int
 pos:Int
 size:Int
 mask:Int
 lo:Int
 hi:Int
structure BA where
 tests:List A8
 verdict:Int
structure BB where
 i:B9
 to:Nat
 here:Nat
def ins(x:B9)(to:Nat):BB:=⟨x,to,0⟩
def lab(l:Nat):BB:=⟨.zero,0,l⟩
def Gy(n:Int):Int:=IntKind.wrap .i16 n
def Kg(n:Int):Int:=IntKind.wrap .i32 n
def DU(op r n:Int):B9:=⟨16*op+7,r,0,0,n⟩
def Bj(op r s:Int):B9:=⟨16*op+15,r,s,0,0⟩
def HC(n:Int):B9:=⟨180,0,0,0,n⟩
def DS:B9:=⟨149,0,0,0,0⟩
def Bq(n:Int):B9:=⟨24,3,0,0,Kg (n % 4294967296)⟩
def DG(n:Int):B9:=⟨0,0,0,0,Kg (n / 4294967296)⟩
def Z6(size:Int):Int:=if size=4 then 0 else if size=2 then 1 else if size=1 then 2 else 3
def BL(size r s off:Int):B9:=⟨97+8*Z6 size,r,s,Gy off,0⟩
def DO(op r n:Int):B9:=⟨16*op+5,r,0,0,n⟩
def Ey(op:Int):B9:=⟨16*op+13,2,3,0,0⟩
def CC:B9:=⟨5,0,0,0,0⟩
def Ci(size:Int):B9:=⟨215,2,0,0,8*size⟩
def A9:List BB:= [ins (DU 11 2 0) 0,ins (DU 11 3 0) 0,ins (BL 4 8 6 0) 0]
def Cr(a:Nat)(n:Int)(out:Nat):List BB:= [ins (DO 3 8 (Kg n)) a,ins CC out,lab a]
def Di(op n:Int)(out:Nat):List BB:=if n<2147483648 then [ins (DO op 2 n) out]else [ins (Bq n) 0,ins (DG n) 0,ins (Ey op) out]
def C6(t:A8)(out d:Nat):Nat->Nat->Nat->List BB
 |0,_,_=> []
 |m+1,k,n=>
  [ins (DO 5 2 k) (if k=15 then out else n+1)]++Cr (n+2) (14+4*(k:Int)+t.pos+t.size) out++ [ins (BL t.size 2 7 (14+4*(k:Int)+t.pos)) 0,ins CC d,lab (n+1)]++C6 t out d m (k+1) (n+2)
def B2(size:Int):Int:=if size=8 then 18446744073709551615 else if size=4 then 4294967295 else if size=2 then 65535 else 255
def BY(t:A8):Bool:=decide (t.kind=3)||decide (t.kind=4)
def FZ(t:A8)(n:Nat):List BB:=
 if t.kind=1 then [ins (Bj 11 2 8) 0]
 else if t.kind=2 then [ins (BL 4 2 6 4) 0]
 else if t.kind=3 then Cr (n+3) (t.pos+t.size) (n+1)++ [ins (BL t.size 2 7 t.pos) 0]
 else Cr (n+4) 15 (n+1)++ [ins (BL 1 2 7 14) 0,ins (DU 5 2 15) 0]++C6 t (n+1) (n+3) 16 0 (n+4)++ [lab (n+3)]
def Eb(t:A8)(n:Nat):Nat:=if t.kind=1\/t.kind=2 then n+2 else if t.kind=3 then n+3 else n+4+32
def Dm(t:A8):List BB:=
 if BY t=true then
  (if 1<t.size then [ins (Ci t.size) 0]else [])++
  (if t.mask=B2 t.size then []else if t.mask<2147483648 then [ins (DU 5 2 t.mask) 0]else [ins (Bq t.mask) 0,ins (DG t.mask) 0,ins (Bj 5 2 3) 0])
 else []
def EU(t:A8)(out:Nat):List BB:=
 (if 0<t.lo then Di 10 t.lo out else [])++(if BY t=false\/t.hi≠B2 t.size then Di 2 t.hi out else [])
def endS(t:A8)(out HI fail:Nat):List BB:=
 if t.neg=true then A9++ [ins CC fail,lab out,lab HI]else [ins CC HI,lab out]++A9++ [ins CC fail,lab HI]
def F0(t:A8)(fail n:Nat):List BB:=A9++FZ t n++Dm t++EU t (n+1)++endS t (n+1) (n+2) fail
def C2(fail:Nat):List A8->Nat->List BB
 | [],_=> []
 |t::l,n=>F0 t fail n++C2 fail l (Eb t n)
def DC:List A8->Nat->Nat
 | [],n=>n
 |t::l,n=>DC l (Eb t n)
def Eg(v:Int):List BB:= [ins (HC (Kg v)) 0,ins DS 0]
def Gz(r:BA)(n:Nat):List BB:=A9++(if r.tests= []then [ins (DO 5 2 0) (n+1)]else [])++C2 (n+1) r.tests (n+1)++Eg r.verdict++ [lab (n+1)]
def CQ:List BA->Nat->List BB
 | [],_=> []
 |r::l,n=>Gz r n++CQ l (DC r.tests (n+1))
def P8:List BA->Nat->Nat
 | [],n=>n
 |r::l,n=>P8 l (DC r.tests (n+1))
def BS(l:List BA):List BB:= [ins (Bj 11 6 1) 0,ins (BL 8 7 1 8) 0]++CQ l 0++A9++Eg 0
def B4(r:BB):Bool:=decide (0<r.here)
def B3:List BB->Nat
 | []=>0
 |r::l=>if B4 r=true then B3 l else B3 l+1
theorem Bk:∀(a b:List BB),B3 (a++b)=B3 a+B3 b
 | [],b=>by simp[B3]
 |r::a,b=>by
  simp only[List.cons_append,B3,Bk a b];split<;>omega
def HX:List BB->Nat->(Nat->Nat)->Nat->Nat
 | [],_,f=>f
 |r::l,n,f=>if B4 r=true then HX l n (λj=>if j=r.here then n else f j)else HX l (n+1) f
def Jy(l:List BB):Nat->Nat:=HX l 0 λ_=>0
def TM(q n:Nat)(x:B9):B9:={x with off:=Gy ((q:Int) - n - 1)}
def Cj(f:Nat->Option Nat):List BB->Nat->List B9
 | [],_=> []
 |r::l,n=>if B4 r=true then Cj f l n else(match(if 0<r.to then f r.to else none)with|some q=>TM q n r.i|none=>r.i)::Cj f l (n+1)
def Bf(l:List BB):List B9:=Cj (λj=>some (Jy l j)) l 0
theorem Dz(f:Nat->Option Nat):∀(a b:List BB) (n:Nat),Cj f (a++b) n=Cj f a n++Cj f b (n+B3 a)
 | [],b,n=>by simp[Cj,B3]
 |r::a,b,n=>by
  simp only[List.cons_append,Cj,B3];split
  ·exact Dz f a b n
  ·rw[Dz f a b (n+1),List.cons_append];congr 2;rw[show n+1+B3 a=n+(B3 a+1)by omega]
theorem CE(f:Nat->Option Nat):∀(a:List BB) (n:Nat),(Cj f a n).length=B3 a
 | [],n=>rfl
 |r::a,n=>by
  simp only[Cj,B3];split
  ·exact CE f a n
  ·simp[CE f a (n+1)]
def Br(l:Nat):List BB->Nat->List Nat
 | [],_=> []
 |r::a,n=>if B4 r=true then Br l a n else(if r.to=l then [n]else [])++Br l a (n+1)
theorem FV(l:Nat):∀(a b:List BB) (n:Nat),Br l (a++b) n=Br l a n++Br l b (n+B3 a)
 | [],b,n=>by simp[Br,B3]
 |r::a,b,n=>by
  simp only[List.cons_append,Br,B3];split
  ·exact FV l a b n
  ·rw[FV l a b (n+1),List.append_assoc,show n+1+B3 a=n+(B3 a+1)by omega]
def KG(c:List B9)(p:Nat)(f:B9->B9):List B9:=match c,p with
 | [],_=> []
 |x::c,0=>f x::c
 |x::c,p+1=>x::KG c p f
theorem G3(f:B9->B9):∀(c:List B9) (p:Nat),(KG c p f).length=c.length
 | [],_=>rfl
 |x::c,0=>rfl
 |x::c,p+1=>by simp[KG,G3 f c p]
def DJ(q n:Nat):List Nat->List B9->List B9
 | [],c=>c
 |p::J,c=>DJ q n J (KG c (p - n) (TM q p))
theorem HZ(q n:Nat)(x:B9):∀(J:List Nat) (c:List B9),(∀p∈J,n+1<=p)->DJ q n J (x::c)=x::DJ q (n+1) J c
 | [],c,_=>rfl
 |p::J,c,h=>by
  have hp:=h p (by simp);simp only[DJ];obtain⟨d,hd⟩:∃d,p - n=d+1:=⟨p - n - 1,by omega⟩;rw[hd,show p - (n+1)=d by omega];simp only[KG];exact HZ q n x J _ λp hp=>h p (by simp[hp])
theorem Kx(l:Nat):∀(a:List BB) (n:Nat),∀p∈Br l a n,n<=p
 | [],n,p,h=>by simp[Br]at h
 |r::a,n,p,h=>by
  simp only[Br]at h;split at h
  ·exact Kx l a n p h
  ·rcases List.mem_append.1 h with h|h
   ·split at h
    ·simp at h;omega
    ·simp at h
   ·have:=Kx l a (n+1) p h;omega
theorem Kv(l:Nat):∀(a:List BB) (n:Nat),∀p∈Br l a n,p<n+B3 a
 | [],n,p,h=>by simp[Br]at h
 |r::a,n,p,h=>by
  simp only[Br]at h;simp only[B3];split at h
  ·rename_i hl;rw[if_pos hl];exact Kv l a n p h
  ·rename_i hl;rw[if_neg hl];rcases List.mem_append.1 h with h|h
   ·split at h
    ·simp at h;omega
    ·simp at h
   ·have:=Kv l a (n+1) p h;omega
def Pq(f:Nat->Option Nat)(l q:Nat):Nat->Option Nat:=λj=>if j=l then some q else f j
theorem JZ(f:Nat->Option Nat)(l q:Nat)(hl:0<l):∀(a:List BB) (n:Nat),DJ q n (Br l a n) (Cj f a n)=Cj (Pq f l q) a n
 | [],n=>rfl
 |r::a,n=>by
  simp only[Br,Cj];split
  ·exact JZ f l q hl a n
  ·have ih:=JZ f l q hl a (n+1);have hge:=Kx l a (n+1);by_cases ht:r.to=l
   ·rw[if_pos ht];simp only[List.cons_append,List.nil_append,DJ,Nat.sub_self,KG];rw[HZ q n _ _ _ hge,ih];congr 1;have h0:0<r.to:=by omega
    simp only[h0,if_true,Pq,ht,hl];cases f l<;>rfl
   ·rw[if_neg ht];simp only[List.nil_append];rw[HZ q n _ _ _ hge,ih];congr 1;by_cases h0:0<r.to
    ·simp[h0,Pq,ht]
    ·simp[h0]
theorem J1(f g:Nat->Option Nat):∀(a:List BB) (n:Nat),(∀r∈a,B4 r=false->0<r.to->f r.to=g r.to)->Cj f a n=Cj g a n
 | [],n,_=>rfl
 |r::a,n,h=>by
  simp only[Cj];split
  ·exact J1 f g a n λr hr=>h r (by simp[hr])
  ·rename_i hl;rw[J1 f g a (n+1) λr hr=>h r (by simp[hr])];congr 2;by_cases h0:0<r.to
   ·rw[if_pos h0,if_pos h0,h r (by simp) (by simpa using hl) h0]
   ·rw[if_neg h0,if_neg h0]
def AE(c:List B9):List Value:=c.flatMap AU
theorem GF(x:B9):(AU x).length=5:=rfl
theorem Zj(x:B9):(AU x).all one=true:=rfl
theorem I9:∀c:List B9,(AE c).length=c.length*5
 | []=>rfl
 |x::c=>by
  have ih:=I9 c;simp only[AE]at ih;simp only[AE,List.flatMap_cons,List.length_append,ih,GF,List.length_cons];omega
theorem Oi:∀c:List B9,(AE c).all one=true
 | []=>rfl
 |x::c=>by
  show(AU x++AE c).all one=true;rw[List.all_append,Zj,Oi c];rfl
theorem Oh(q:Nat):∀(c:List B9) (p n:Nat),p<c.length->splice (AE c) (p*5+3) [.int .i16 (Gy ((q:Int) - n - 1))]=AE (KG c p (TM q n))
 | [],p,n,h=>by simp at h
 |x::c,0,n,h=>by
  show splice (AU x++AE c) 3 _=AU (TM q n x)++AE c;rfl
 |x::c,p+1,n,h=>by
  have ih:=Oh q c p n (by simpa using h);have e:(p+1)*5+3=(AU x).length+(p*5+3):=by rw[GF];omega
  show splice (AU x++AE c) _ _=AU x++AE (KG c p (TM q n));rw[←ih,e];unfold splice;rw[List.take_length_add_append,show(AU x).length+(p*5+3)+ [Value.int .i16 (Gy ((q:Int) - n - 1))].length=(AU x).length+(p*5+3+ [Value.int .i16 (Gy ((q:Int) - n - 1))].length)by omega,List.drop_length_add_append,List.append_assoc]
end Go.Cmp
namespace Go.Proofs.YtgjflcgmieiafaaGreatDoor
open Go Go.DI Go.DI.Kit Go.Proofs Go.Cmp
noncomputable section
def kp:TypeId->Bool:=Y9 [86,87,106,107,109,110,121,122]
theorem hK:Plain Tryz.prog kp:=Ql (by kernel_rfl)
theorem Ed:PY Tryz.prog:=dq (by kernel_rfl)
def gl:List Value:= [.int .i64 4, .int .i64 2, .int .i64 1, .int .i64 8]
def AX(t:A8):List Value:= [.bool t.neg, .int .i64 t.kind, .int .i64 t.pos, .int .i64 t.size, .int .u64 t.mask, .int .u64 t.lo, .int .u64 t.hi]
end
end Go.Proofs.YtgjflcgmieiafaaGreatDoor
namespace Go.DI
namespace Kit
noncomputable section
variable{α:Type}
end
end Kit
end Go.DI
namespace Go.DI
namespace Kit
noncomputable section
def QG(ρ:Nat->Nat):Value->Value
 | .slice (some ⟨b,o,sp⟩) n c=> .slice (some ⟨ρ b,o,sp⟩) n c
 | .pointer (some ⟨b,o,none⟩)=> .pointer (some ⟨ρ b,o,none⟩)
 |v=>v
def de:Value->Bool
 | .slice _ _ _=>true
 | .pointer none=>true
 | .pointer (some ⟨_,_,none⟩)=>true
 | .int _ _=>true
 | .bool _=>true
 | .string _=>true
 | .tuple ⟨[]⟩=>true
 |_=>false
def seenV(nb:Nat):Value->Bool
 | .slice (some a) _ _=>Nat.blt a.block nb
 | .pointer (some a)=>Nat.blt a.block nb
 |_=>true
theorem NL:Free (.tuple ⟨[]⟩):=FD (by intro x hx;simp at hx)
theorem VR{ρ:Nat->Nat}{nb:Nat}{v:Value}(h:de v=true)(hs:seenV nb v=true):QH ρ (λi=>Nat.blt i nb) v (QG ρ v):=by
 unfold de at h
 split at h<;>try (simp at h;done)
 ·rename_i a n c;cases a with
  |none=>exact(EB _ _).sim _ _
  |some a=>
   obtain⟨b,o,sp⟩:=a;cases sp with
   |none=>exact QI (ρ:=ρ) hs
   |some e=>exact EC (ρ:=ρ) hs
 ·exact Ox.sim _ _
 ·exact VS (ρ:=ρ) hs
 ·exact(Cn _ _).sim _ _
 ·exact(De _).sim _ _
 ·exact(Lj _).sim _ _
 ·exact NL.sim _ _
theorem g9{ρ:Nat->Nat}{v:Value}(h:de v=true):Rc ρ v (QG ρ v):=by
 unfold de at h
 split at h<;>try (simp at h;done)
 ·rename_i a n c;cases a with
  |none=>exact(EB _ _).emb _
  |some a=>
   obtain⟨b,o,sp⟩:=a;cases sp with
   |none=>exact VT (ρ:=ρ)
   |some e=>exact Xg (ρ:=ρ)
 ·exact Ox.emb _
 ·exact ga (ρ:=ρ)
 ·exact(Cn _ _).emb _
 ·exact(De _).emb _
 ·exact(Lj _).emb _
 ·exact NL.emb _
def Gm(ρ:Nat->Nat):BI->BI
 | .cells o c=> .cells o (c.map (QG ρ))
 |_=> .none
def okB:BI->Prop
 | .cells _ c=>∀v∈c,de v=true
 | .none=>True
 |_=>False
def seenB(nb:Nat):BI->Prop
 | .cells _ c=>∀v∈c,seenV nb v=true
 |_=>True
theorem bsim_ren{ρ:Nat->Nat}{nb:Nat}{b:BI}(h:okB b)(hs:seenB nb b):QJ ρ (λi=>Nat.blt i nb) b (Gm ρ b):=by
 cases b with
 |none=>exact Xh _
 |map=>exact h.elim
 |siter=>exact h.elim
 |cells o c=>
  refine NM (by simp) λi x y hx hy=>?_;rw[List.getElem?_map,hx]at hy;simp only[Option.map_some,Option.some.injEq]at hy;subst hy;have hm:=List.mem_of_getElem? hx;exact VR (h x hm) (hs x hm)
theorem Rd{ρ:Nat->Nat}{b:BI}(h:okB b):Td ρ b (Gm ρ b):=by
 cases b with
 |none=>exact Xi _
 |map=>exact h.elim
 |siter=>exact h.elim
 |cells o c=>
  refine NN (by simp) λi x y hx hy=>?_;rw[List.getElem?_map,hx]at hy;simp only[Option.map_some,Option.some.injEq]at hy;subst hy;exact g9 (h x (List.mem_of_getElem? hx))
def mS(gl:List Value)(ss:List BI):Mem:=ss.foldl Mem.push (mG gl)
theorem Cm:∀(ss:List BI) (m:Mem),(ss.foldl Mem.push m).size=m.size+ss.length
 | [],m=>rfl
 |x::ss,m=>by rw[List.foldl_cons,Cm ss];simp;omega
theorem CM:∀(ss:List BI) (m:Mem) (j:Nat),(ss.foldl Mem.push m).get j=if j<m.size then m.get j else(match ss[j - m.size]? with|some x=>x|none=>m.get j)
 | [],m,j=>by simp
 |x::ss,m,j=>by
  rw[List.foldl_cons,CM ss,Mem.size_push,Mem.get_push];by_cases h1:j<m.size
  ·rw[if_pos (by omega),if_neg (by omega),if_pos h1]
  ·rw[if_neg h1];by_cases h2:j=m.size
   ·subst h2;simp
   ·rw[if_neg (by omega),if_neg h2,show j - m.size=(j - (m.size+1))+1 by omega];rfl
def DV(bs:List Nat)(M:Mem)(i:Nat):Nat:=match i with|0=>0|i+1=>match bs[i]? with|some b=>b|none=>M.size+(i - bs.length)
structure Fits(gl:List Value)(bs:List Nat)(ss:List BI)(M:Mem):Prop where
 top:M.top
 gl0:M.get 0= .cells false gl
 pos:1<=M.size
 len:bs.length=ss.length
 lt:∀b∈bs,b<M.size
 nz:0∉bs
 nd:bs.Nodup
 at_:∀(i b:Nat) (s:BI),bs[i]?=some b->ss[i]?=some s->M.get b=Gm (DV bs M) s
 ok:∀s∈ss,okB s/\seenB (1+bs.length) s
section
variable{P:Program}{K:TypeId->Bool}{gl:List Value}
end
end
end Kit
end Go.DI
namespace Go.DI
namespace Kit
noncomputable section
variable{α:Type}
def CA(id:Nat):Code->List Oper
 | .region i ops _=>cond (Nat.beq i id) ops.toList []
 | .seq a b=>match CA id a with| []=>CA id b|l=>l
 | .cond _ a b=>match CA id a with| []=>CA id b|l=>l
 | .block _ c=>CA id c
 | .loop c=>CA id c
 |_=> []
theorem PG(P:Program)(K:TypeId->Bool)(G:Nat)(cf:Y.CF α)(n:Nat)(ops:List Oper)(q:AF->Mem->Option α):∀(l:List Oper) (t:AF) (m:Mem) (q':List Rec->AF->Mem->Option α),(∀rs t m,q' rs t m=q t m)->Y.recF l P K G cf n ops t m q'=Y.opsF l P K G cf n ops t m q
 | [],t,m,q',h=>h [] t m
 |o::l,t,m,q',h=>by
  have ih:=PG P K G cf n ops q l
  show Bool.rec (motive:=λ_=>Option α) none (Bool.rec (motive:=λ_=>Option α) (Y.putOF t o.dst undef λt'=>Y.recF l P K G cf n ops t' m λrs t' m''=>q' (⟨false,undef,t,m⟩::rs) t' m'')
   (Y.opF o.op P K G cf t m λv m'=>Y.putOF t o.dst v λt'=>Y.recF l P K G cf n ops t' m' λrs t' m''=>q' (⟨true,v,t,m⟩::rs) t' m'') (Y.wantF o ops t)) (Y.dstF n o.dst)
   =Bool.rec (motive:=λ_=>Option α) none (Bool.rec (motive:=λ_=>Option α) (Y.putOF t o.dst undef λt'=>Y.opsF l P K G cf n ops t' m q)
   (Y.opF o.op P K G cf t m λv m'=>Y.putOF t o.dst v λt'=>Y.opsF l P K G cf n ops t' m' q) (Y.wantF o ops t)) (Y.dstF n o.dst)
  have e1:(λt'=>Y.recF l P K G cf n ops t' m λrs t' m''=>q' (⟨false,undef,t,m⟩::rs) t' m'')=λt'=>Y.opsF l P K G cf n ops t' m q:=funext λt'=>ih _ _ _ λrs t m=>h _ t m
  have e2:(λv m'=>Y.putOF t o.dst v λt'=>Y.recF l P K G cf n ops t' m' λrs t' m''=>q' (⟨true,v,t,m⟩::rs) t' m'')=λv m'=>Y.putOF t o.dst v λt'=>Y.opsF l P K G cf n ops t' m' q:=by
   funext v m';congr 1;funext t';exact ih _ _ _ λrs t m=>h _ t m
  rw[e1,e2]
def V7(ops:List Oper):Bool:=Rg ops && (LI ops).isEmpty && (Jc ops).isEmpty
theorem SB{P:Program}{K:TypeId->Bool}{G:Nat}{cf:Y.CF α}{n:Nat}{ops:List Oper}(h:V7 ops=true)(t:AF)(m:Mem)(q:AF->Mem->Option α):Y.drawF P K G cf n ops t m q=Y.opsF ops P K G cf n ops t m q:=by
 simp only[V7,Bool.and_eq_true,List.isEmpty_iff]at h
 obtain⟨⟨h1,h2⟩,h3⟩:=h
 unfold Y.drawF
 rw[h1,h2,h3]
 exact PG P K G cf n ops q ops t m _ λ_ _ _=>rfl
def calm(s:List Nat):Code->Code
 | .region i ops d=>cond (s.any (Nat.beq i) && V7 ops.toList) (.region i ops false) (.region i ops d)
 | .seq a b=> .seq (calm s a) (calm s b)
 | .cond c a b=> .cond c (calm s a) (calm s b)
 | .block j c=> .block j (calm s c)
 |c=>c
def QU:Code->Bool
 | .region _ _ _=>true
 | .seq a b=>QU a && QU b
 | .cond _ a b=>QU a && QU b
 | .block _ c=>QU c
 | .loop _=>true
 | .skip=>true
 | .exit _=>true
 | .ret=>true
 |_=>false
theorem VI(s:List Nat)(P:Program)(K:TypeId->Bool)(G:Nat)(cf:Y.CF α)(L:Y.LK α)(n k:Nat):∀(c:Code),QU c=true->∀(t:AF) (m:Mem) (q:Y.ExK α),Y.codeF c P K G cf L n k t m q=Y.codeF (calm s c) P K G cf L n k t m q:=by
 intro c
 induction c with
 |skip=>intros;rfl
 |exit=>intros;rfl
 |ret=>intros;rfl
 |region i ops d=>
  intro _ t m q;unfold calm;cases hb:s.any (Nat.beq i) && V7 ops.toList with
  |false=>rfl
  |true=>
   simp only[Bool.and_eq_true]at hb;cases d with
   |false=>rfl
   |true=>exact SB hb.2 t m _
 |seq a b ia ib=>
  intro h t m q;simp only[QU,Bool.and_eq_true]at h;refine(ia h.1 ..).trans ?_;show _=Y.codeF (calm s a) P K G cf L n k t m λe t m=>Ex.rec (motive:=λ_=>Option α) (Y.codeF (calm s b) P K G cf L n k t m q) (λid=>q (.exit id) t m) (q .ret t m) e;congr 1;funext e t m;cases e with
  |normal=>exact ib h.2 ..
  |exit=>rfl
  |ret=>rfl
 |cond c a b ia ib=>
  intro h t m q;simp only[QU,Bool.and_eq_true]at h;show Y.evF c G t (λv=>Y.asBool v (Y.codeF a P K G cf L n k t m q) (Y.codeF b P K G cf L n k t m q))=Y.evF c G t (λv=>Y.asBool v (Y.codeF (calm s a) P K G cf L n k t m q) (Y.codeF (calm s b) P K G cf L n k t m q));rw[ia h.1,ib h.2]
 |block j c ic=>
  intro h t m q;simp only[QU]at h;exact ic h ..
 |loop c ic=>intros;rfl
 |_=>intro h;cases h
end
end Kit
end Go.DI
namespace Go.Proofs.YtgjflcgmieiafaaGreatDoor
open Go Go.DI Go.DI.Kit Go.Proofs Go.Cmp
noncomputable section
set_option maxHeartbeats 4000000
variable{α:Type}(x:Nat->Value)(cf:Y.CF α)(L:Y.LK α)(k:Nat)(m:Mem)
noncomputable def TQ:Code:=D3 [1,2] (calm [2] (AM Tryz.f35))
noncomputable def da:List Oper:=CA 2 (AM Tryz.f35)
noncomputable def XW:List Oper:=CA 1 (AM Tryz.f35)
noncomputable def qg:Code:=D3 [1] (calm [1] (AM Tryz.f37))
noncomputable def qh:List Oper:=CA 1 (AM Tryz.f37)
noncomputable def qi:Code:=D3 [1] (AM Tryz.f42)
noncomputable def qj:List Oper:=CA 1 (AM Tryz.f42)
theorem mo(mp:Nat)(wc wo ws:Int)(ww wr:Bool)(io id is iof im:Int)(q:Value->Mem->Option α):Y.codeF TQ Tryz.prog kp 1 (Y.cfT Tryz.prog cf) L 24 k (AB 24 (Bv [.pointer (some ⟨mp,0,none⟩),.agg ⟨[.int .i64 wc,.int .i64 wo,.int .i64 ws,.bool ww,.bool wr]⟩,.agg ⟨[.int .u8 io,.int .u8 id,.int .u8 is,.int .i16 iof,.int .i32 im]⟩])) m (Y.retF Tryz.prog Tryz.f35 q)=
 (L (λt m q=>Y.codeF (Y.loopC TQ 0) Tryz.prog kp 1 (Y.cfT Tryz.prog cf) L 24 k t m q) (Y.loopC TQ 0) k (AB 24 (up (up Go.DI.x0 [(2,.agg ⟨[.int .u8 io,.int .u8 id,.int .u8 is,.int .i16 iof,.int .i32 im]⟩),(1,.agg ⟨[.int .i64 wc,.int .i64 wo,.int .i64 ws,.bool ww,.bool wr]⟩)]) [(0,.pointer (some ⟨mp,0,none⟩)),(4,.pointer (some ⟨Mem.size m,0,none⟩)),(5,.pointer (some ⟨Nat.succ (Mem.size m),0,none⟩))])) (Mem.push (Mem.push m (.cells true [.int .i64 wc,.int .i64 wo,.int .i64 ws,.bool ww,.bool wr])) (.cells true [.int .u8 io,.int .u8 id,.int .u8 is,.int .i16 iof,.int .i32 im])) (Y.kont Tryz.prog kp 1 (Y.cfT Tryz.prog cf) L 24 k TQ 0 (Y.retF Tryz.prog Tryz.f35 q))):=by kernel_rfl
theorem mq(mp b4 b5:Nat)(q:AF->Mem->Option α):Y.opsF (List.take 7 XW) Tryz.prog kp 1 (Y.cfT Tryz.prog cf) 24 XW (AB 24 (up x [(0,.pointer (some ⟨mp,0,none⟩)),(4,.pointer (some ⟨b4,0,none⟩)),(5,.pointer (some ⟨b5,0,none⟩))])) m q=
 (Y.cellsOf (Mem.get m b4) (λ_ A=>cond (Nat.ble 5 (Y.lenLF A)) (Y.cellsOf (Mem.get m b5) (λ_ B=>cond (Nat.ble 5 (Y.lenLF B)) (cf 65 [.agg ⟨Y.subL A 0 5⟩,.agg ⟨Y.subL B 0 5⟩] m (λF E=>Y.asTup F (λG=>Y.unc (Array.toList G) (λa l=>Y.asAgg a (λC=>Y.unc l (λH I=>Y.asInt H (λJ D=>cond (Y.kEq .i64 J) (Y.unc I (λN O=>none) (q (AB 24 (up (up x [(8,.tuple ⟨[.agg C,.int .i64 D]⟩),(4,.pointer (some ⟨b4,0,none⟩)),(10,.agg ⟨Y.subL B 0 5⟩),(9,.agg ⟨Y.subL A 0 5⟩),(5,.pointer (some ⟨b5,0,none⟩)),(11,.tuple ⟨[.agg C,.int .i64 D]⟩)]) [(0,.pointer (some ⟨mp,0,none⟩)),(6,.pointer (some ⟨Mem.size E,0,none⟩)),(12,.agg C),(13,.int .i64 D)])) (Mem.push E (.cells true [.int .u8 0,.int .u8 0,.int .u8 0,.int .i16 0,.int .i32 0])))) none) none) none) none) none))) none)) none)):=by kernel_rfl
theorem mv(mp b6:Nat)(q:Value->Mem->Option α):Y.kont Tryz.prog kp 1 (Y.cfT Tryz.prog cf) L 24 k TQ 0 (Y.retF Tryz.prog Tryz.f35 q) .normal (AB 24 (up x [(0,.pointer (some ⟨mp,0,none⟩)),(6,.pointer (some ⟨b6,0,none⟩))])) m=
 (L (λt m q=>Y.codeF (Y.loopC TQ 1) Tryz.prog kp 1 (Y.cfT Tryz.prog cf) L 24 k t m q) (Y.loopC TQ 1) k (AB 24 (up x [(0,.pointer (some ⟨mp,0,none⟩)),(6,.pointer (some ⟨b6,0,none⟩))])) m (Y.kont Tryz.prog kp 1 (Y.cfT Tryz.prog cf) L 24 k TQ 1 (Y.retF Tryz.prog Tryz.f35 q))):=by kernel_rfl
theorem mw(mp b6:Nat)(q:AF->Mem->Option α):Y.opsF (List.take 6 da) Tryz.prog kp 1 (Y.cfT Tryz.prog cf) 24 da (AB 24 (up x [(0,.pointer (some ⟨mp,0,none⟩)),(6,.pointer (some ⟨b6,0,none⟩))])) m q=
 (Y.cellsOf (Mem.get m mp) (λ_ B=>Option.elim (Y.nthL B 0) none (λo9=>Y.asSl o9 (λC D E=>Y.cellsOf (Mem.get m b6) (λ_ A=>cond (Nat.ble 5 (Y.lenLF A)) (q (AB 24 (up (up x [(16,.pointer (some ⟨mp,0,none⟩)),(6,.pointer (some ⟨b6,0,none⟩)),(17,.pointer (some ⟨mp,0,none⟩)),(15,.pointer (some ⟨mp,0,none⟩))]) [(0,.pointer (some ⟨mp,0,none⟩)),(14,.pointer (some ⟨mp,0,none⟩)),(18,.slice C D E),(19,.agg ⟨Y.subL A 0 5⟩)])) m) none)) none))):=by kernel_rfl
theorem ft(mp:Nat)(v18:Value)(io id is iof im:Int)(q:AF->Mem->Option α):Y.opsF (List.take 1 (List.drop 6 da)) Tryz.prog kp 1 (Y.cfT Tryz.prog cf) 24 da (AB 24 (up x [(0,.pointer (some ⟨mp,0,none⟩)),(14,.pointer (some ⟨mp,0,none⟩)),(18,v18),(19,.agg ⟨[.int .u8 io,.int .u8 id,.int .u8 is,.int .i16 iof,.int .i32 im]⟩)])) m q=
 (q (AB 24 (up (up x [(19,.agg ⟨[.int .u8 io,.int .u8 id,.int .u8 is,.int .i16 iof,.int .i32 im]⟩)]) [(0,.pointer (some ⟨mp,0,none⟩)),(14,.pointer (some ⟨mp,0,none⟩)),(18,v18),(20,.slice (some ⟨Mem.size m,0,none⟩) 1 1)])) (Mem.push m (.cells true [.int .u8 io,.int .u8 id,.int .u8 is,.int .i16 iof,.int .i32 im]))):=by kernel_rfl
theorem nA(v0:Value)(q:Value->Mem->Option α):Y.kont Tryz.prog kp 1 (Y.cfT Tryz.prog cf) L 24 k TQ 1 (Y.retF Tryz.prog Tryz.f35 q) .normal (AB 24 (up x [(0,v0)])) m=
 (q (.tuple ⟨[]⟩) m):=by kernel_rfl
theorem fv(mp lp:Nat)(wc wo ws:Int)(ww wr:Bool)(io id is iof im:Int)(q:Value->Mem->Option α):Y.codeF qg Tryz.prog kp 1 (Y.cfT Tryz.prog cf) L 26 k (AB 26 (Bv [.pointer (some ⟨mp,0,none⟩),.agg ⟨[.int .i64 wc,.int .i64 wo,.int .i64 ws,.bool ww,.bool wr]⟩,.agg ⟨[.int .u8 io,.int .u8 id,.int .u8 is,.int .i16 iof,.int .i32 im]⟩,.pointer (some ⟨lp,0,none⟩)])) m (Y.retF Tryz.prog Tryz.f37 q)=
 (L (λt m q=>Y.codeF (Y.loopC qg 0) Tryz.prog kp 1 (Y.cfT Tryz.prog cf) L 26 k t m q) (Y.loopC qg 0) k (AB 26 (up (up Go.DI.x0 [(2,.agg ⟨[.int .u8 io,.int .u8 id,.int .u8 is,.int .i16 iof,.int .i32 im]⟩),(1,.agg ⟨[.int .i64 wc,.int .i64 wo,.int .i64 ws,.bool ww,.bool wr]⟩)]) [(0,.pointer (some ⟨mp,0,none⟩)),(3,.pointer (some ⟨lp,0,none⟩)),(5,.pointer (some ⟨Mem.size m,0,none⟩)),(6,.pointer (some ⟨Nat.succ (Mem.size m),0,none⟩))])) (Mem.push (Mem.push m (.cells true [.int .i64 wc,.int .i64 wo,.int .i64 ws,.bool ww,.bool wr])) (.cells true [.int .u8 io,.int .u8 id,.int .u8 is,.int .i16 iof,.int .i32 im])) (Y.kont Tryz.prog kp 1 (Y.cfT Tryz.prog cf) L 26 k qg 0 (Y.retF Tryz.prog Tryz.f37 q))):=by kernel_rfl
theorem fw(mp lp b5 b6:Nat)(q:AF->Mem->Option α):Y.opsF (List.take 11 qh) Tryz.prog kp 1 (Y.cfT Tryz.prog cf) 26 qh (AB 26 (up x [(0,.pointer (some ⟨mp,0,none⟩)),(3,.pointer (some ⟨lp,0,none⟩)),(5,.pointer (some ⟨b5,0,none⟩)),(6,.pointer (some ⟨b6,0,none⟩))])) m q=
 (Y.cellsOf (Mem.get m lp) (λ_ B=>Option.elim (Y.nthL B 1) none (λC=>Y.asSl C (λD E F=>Y.cellsOf (Mem.get m mp) (λ_ G=>Option.elim (Y.nthL G 0) none (λH=>Y.asSl H (λI A J=>q (AB 26 (up (up x [(16,.slice I A J),(10,.pointer (some ⟨lp,0,none⟩)),(14,.pointer (some ⟨mp,0,none⟩)),(17,.int .i64 (Int.ofNat A)),(9,.pointer (some ⟨lp,0,none⟩)),(13,.pointer (some ⟨mp,0,none⟩)),(3,.pointer (some ⟨lp,0,none⟩)),(11,.pointer (some ⟨lp,1,none⟩)),(15,.pointer (some ⟨mp,0,none⟩))]) [(0,.pointer (some ⟨mp,0,none⟩)),(5,.pointer (some ⟨b5,0,none⟩)),(6,.pointer (some ⟨b6,0,none⟩)),(8,.pointer (some ⟨lp,0,none⟩)),(12,.slice D E F),(18,.slice (some ⟨Mem.size m,0,none⟩) 1 1)])) (Mem.push m (.cells true [.int .i64 (Int.ofNat A)]))) none))) none))):=by kernel_rfl
theorem fy(mp b5 b6:Nat)(q:Value->Mem->Option α):Y.kont Tryz.prog kp 1 (Y.cfT Tryz.prog cf) L 26 k qg 0 (Y.retF Tryz.prog Tryz.f37 q) .normal (AB 26 (up x [(0,.pointer (some ⟨mp,0,none⟩)),(5,.pointer (some ⟨b5,0,none⟩)),(6,.pointer (some ⟨b6,0,none⟩))])) m=
 (Y.cellsOf (Mem.get m b5) (λ_ A=>cond (Nat.ble 5 (Y.lenLF A)) (Y.cellsOf (Mem.get m b6) (λ_ B=>cond (Nat.ble 5 (Y.lenLF B)) (cf 35 [.pointer (some ⟨mp,0,none⟩),.agg ⟨Y.subL A 0 5⟩,.agg ⟨Y.subL B 0 5⟩] m (λD C=>q (.tuple ⟨[]⟩) C)) none)) none)):=by kernel_rfl
theorem nE(mp:Nat)(d n:Int)(q:Value->Mem->Option α):Y.codeF qi Tryz.prog kp 1 (Y.cfT Tryz.prog cf) L 28 k (AB 28 (Bv [.pointer (some ⟨mp,0,none⟩),.int .u8 d,.int .u64 n])) m (Y.retF Tryz.prog Tryz.f42 q)=
 (cf 35 [.pointer (some ⟨mp,0,none⟩),.agg ⟨[.int .i64 10,.int .i64 0,.int .i64 0,.bool false,.bool false]⟩,.agg ⟨[.int .u8 0,.int .u8 d,.int .u8 0,.int .i16 0,.int .i32 (IntKind.wrap .i32 (IntKind.wrap .u32 n))]⟩] m (λA B=>L (λt m q=>Y.codeF (Y.loopC qi 0) Tryz.prog kp 1 (Y.cfT Tryz.prog cf) L 28 k t m q) (Y.loopC qi 0) k (AB 28 (up (up Go.DI.x0 [(8,.int .u8 d),(12,.agg ⟨[.int .u8 0,.int .u8 d,.int .u8 0,.int .i16 0,.int .i32 (IntKind.wrap .i32 (IntKind.wrap .u32 n))]⟩),(10,.int .u32 (IntKind.wrap .u32 n)),(6,.pointer (some ⟨mp,0,none⟩)),(1,.int .u8 d),(9,.int .u64 n),(13,A),(11,.int .i32 (IntKind.wrap .i32 (IntKind.wrap .u32 n))),(7,.agg ⟨[.int .i64 10,.int .i64 0,.int .i64 0,.bool false,.bool false]⟩)]) [(0,.pointer (some ⟨mp,0,none⟩)),(2,.int .u64 n)])) B (Y.kont Tryz.prog kp 1 (Y.cfT Tryz.prog cf) L 28 k qi 0 (Y.retF Tryz.prog Tryz.f42 q)))):=by kernel_rfl
theorem nF(mp:Nat)(n:Int)(q:AF->Mem->Option α):Y.opsF (List.take 11 qj) Tryz.prog kp 1 (Y.cfT Tryz.prog cf) 28 qj (AB 28 (up x [(0,.pointer (some ⟨mp,0,none⟩)),(2,.int .u64 n)])) m q=
 (Y.cellsOf (Mem.get m mp) (λ_ A=>Option.elim (Y.nthL A 0) none (λo9=>Y.asSl o9 (λB C D=>q (AB 28 (up (up x [(16,.pointer (some ⟨mp,0,none⟩)),(20,.int .u64 (Int.fdiv n 4294967296)),(2,.int .u64 n),(22,.int .i32 (IntKind.wrap .i32 (IntKind.wrap .u32 (Int.fdiv n 4294967296)))),(17,.pointer (some ⟨mp,0,none⟩)),(21,.int .u32 (IntKind.wrap .u32 (Int.fdiv n 4294967296))),(19,.int .u64 n),(23,.agg ⟨[.int .u8 0,.int .u8 0,.int .u8 0,.int .i16 0,.int .i32 (IntKind.wrap .i32 (IntKind.wrap .u32 (Int.fdiv n 4294967296)))]⟩),(15,.pointer (some ⟨mp,0,none⟩))]) [(0,.pointer (some ⟨mp,0,none⟩)),(14,.pointer (some ⟨mp,0,none⟩)),(18,.slice B C D),(24,.slice (some ⟨Mem.size m,0,none⟩) 1 1)])) (Mem.push m (.cells true [.int .u8 0,.int .u8 0,.int .u8 0,.int .i16 0,.int .i32 (IntKind.wrap .i32 (IntKind.wrap .u32 (Int.fdiv n 4294967296)))]))) none))):=by kernel_rfl
theorem nI(v0:Value)(q:Value->Mem->Option α):Y.kont Tryz.prog kp 1 (Y.cfT Tryz.prog cf) L 28 k qi 0 (Y.retF Tryz.prog Tryz.f42 q) .normal (AB 28 (up x [(0,v0)])) m=
 (q (.tuple ⟨[]⟩) m):=by kernel_rfl
end
end Go.Proofs.YtgjflcgmieiafaaGreatDoor
namespace Go.Proofs.YtgjflcgmieiafaaGreatDoor
open Go Go.DI Go.DI.Kit Go.Proofs Go.Cmp
noncomputable section
set_option maxHeartbeats 4000000
variable{α:Type}(x:Nat->Value)(cf:Y.CF α)(L:Y.LK α)(k:Nat)(m:Mem)
theorem my(mp:Nat)(w0 u v:Value)(q:AF->Mem->Option α):Y.opsF (List.drop 7 da) Tryz.prog kp 1 (Y.cfT Tryz.prog cf) 24 da (AB 24 (up x [(0,w0),(14,.pointer (some ⟨mp,0,none⟩)),(18,u),(20,v)])) m q=
 Y.appendF Tryz.prog m 30 30 u v λa m'=>Y.storeF Tryz.prog m' 30 a (.pointer (some ⟨mp,0,none⟩)) λm''=>q (AB 24 (up (up x [(14, .pointer (some ⟨mp,0,none⟩)),(18,u),(20,v),(21,a),(22, .pointer (some ⟨mp,0,none⟩)),(23, .pointer (some ⟨mp,0,none⟩))]) [(0,w0)])) m'':=by kernel_rfl
theorem fx(mp:Nat)(w0 w5 w6 u v:Value)(q:AF->Mem->Option α):Y.opsF (List.drop 11 qh) Tryz.prog kp 1 (Y.cfT Tryz.prog cf) 26 qh (AB 26 (up x [(0,w0),(5,w5),(6,w6),(8,.pointer (some ⟨mp,0,none⟩)),(12,u),(18,v)])) m q=
 Y.appendF Tryz.prog m 74 74 u v λa m'=>Y.storeF Tryz.prog m' 74 a (.pointer (some ⟨mp,1,none⟩)) λm''=>q (AB 26 (up (up x [(8, .pointer (some ⟨mp,0,none⟩)),(12,u),(18,v),(19,a),(20, .pointer (some ⟨mp,0,none⟩)),(21, .pointer (some ⟨mp,1,none⟩))]) [(0,w0),(5,w5),(6,w6)])) m'':=by kernel_rfl
theorem nH(mp:Nat)(w0 u v:Value)(q:AF->Mem->Option α):Y.opsF (List.drop 11 qj) Tryz.prog kp 1 (Y.cfT Tryz.prog cf) 28 qj (AB 28 (up x [(0,w0),(14,.pointer (some ⟨mp,0,none⟩)),(18,u),(24,v)])) m q=
 Y.appendF Tryz.prog m 30 30 u v λa m'=>Y.storeF Tryz.prog m' 30 a (.pointer (some ⟨mp,0,none⟩)) λm''=>q (AB 28 (up (up x [(14, .pointer (some ⟨mp,0,none⟩)),(18,u),(24,v),(25,a),(26, .pointer (some ⟨mp,0,none⟩)),(27, .pointer (some ⟨mp,0,none⟩))]) [(0,w0)])) m'':=by kernel_rfl
theorem mu(b:Nat)(w0 u v:Value)(q:AF->Mem->Option α):Y.opsF (List.drop 7 XW) Tryz.prog kp 1 (Y.cfT Tryz.prog cf) 24 XW (AB 24 (up x [(0,w0),(6,.pointer (some ⟨b,0,none⟩)),(12,u),(13,v)])) m q=
 Y.storeF Tryz.prog m 110 u (.pointer (some ⟨b,0,none⟩)) λm'=>q (AB 24 (up (up x [(12,u),(13,v),(7,v)]) [(0,w0),(6, .pointer (some ⟨b,0,none⟩))])) m':=by kernel_rfl
end
end Go.Proofs.YtgjflcgmieiafaaGreatDoor
namespace Go.DI
namespace Kit
noncomputable section
structure Bw where
 pre:List Value
 post:List Value
 z:Nat
 n:Nat
 c:List Value
def uU(b:Option Nat)(z n:Nat):Value:=match b with|none=> .slice none 0 0|some c=> .slice (some ⟨c,0,some z⟩) n n
def sC(M:Mem)(b:Option Nat)(n:Nat)(l:List Value):Prop:=match b with|none=>n=0/\l= []|some c=>M.get c= .cells true l
structure At(M:Mem)(p:Nat)(b:Option Nat)(o:Bw):Prop where
 cells:M.get p= .cells true (o.pre++uU b o.z o.n::o.post)
 buf:sC M b o.n o.c
 len:o.c.length=o.n*o.z
 ones:o.c.all one=true
inductive aI(M:Mem):List (Nat×Bw)->List Nat->Prop
 |nil:aI M [] []
 |cons {p:Nat} {b:Option Nat} {o:Bw} {hs:List (Nat×Bw)} {F:List Nat}:At M p b o->aI M hs F->aI M ((p,o)::hs) (p::(b.toList++F))
abbrev CH:=Nat->Option BI
def Hp(M:Mem)(K:CH)(hs:List (Nat×Bw)):Prop:=M.top/\(∀j x,K j=some x->j<M.size/\M.get j=x)/\∃F,aI M hs F/\F.Nodup/\∀x∈F,K x=none/\x<M.size
theorem Hp.top{M:Mem}{K:CH}{hs:List (Nat×Bw)}(h:Hp M K hs):M.top:=h.1
theorem Hp.get{M:Mem}{K:CH}{hs:List (Nat×Bw)}(h:Hp M K hs){j:Nat}{x:BI}(hj:K j=some x):M.get j=x:=(h.2.1 j x hj).2
theorem Hp.lt{M:Mem}{K:CH}{hs:List (Nat×Bw)}(h:Hp M K hs){j:Nat}{x:BI}(hj:K j=some x):j<M.size:=(h.2.1 j x hj).1
theorem At.mono{M M':Mem}{p:Nat}{b:Option Nat}{o:Bw}(h:At M p b o)(hm:∀x∈p::b.toList,M'.get x=M.get x):At M' p b o:=by
 refine⟨by rw[hm p (List.mem_cons_self ..)];exact h.cells,?_,h.len,h.ones⟩
 have:=h.buf
 cases b with
 |none=>exact this
 |some c=>show M'.get c=_;rw[hm c (by simp)];exact this
theorem aI.mono{M M':Mem}{hs:List (Nat×Bw)}{F:List Nat}(h:aI M hs F)(hm:∀x∈F,M'.get x=M.get x):aI M' hs F:=by
 induction h with
 |nil=>exact .nil
 |cons hA _ ih=>exact .cons (hA.mono λx hx=>hm x (by simp at hx ⊢;rcases hx with h|h<;>simp[h])) (ih λx hx=>hm x (by simp[hx]))
theorem aI.perm{M:Mem}{hs hs':List (Nat×Bw)}(hp:hs.Perm hs'):∀{F:List Nat},aI M hs F->∃F',aI M hs' F'/\F.Perm F':=by
 induction hp with
 |nil=>intro F h;exact⟨F,h, .refl _⟩
 |cons x _ ih=>
  intro F h;cases h with
  |cons hA hL=>
   obtain⟨F',h1,h2⟩:=ih hL;exact⟨_, .cons hA h1, .cons _ (h2.append_left _)⟩
 |swap x y l=>
  intro F h;cases h with
  |cons hA hL=>
   cases hL with
   |cons hA' hL'=>
    refine⟨_, .cons hA' (.cons hA hL'),?_⟩;rename_i p b o p' b' o' F;show((p::b.toList)++((p'::b'.toList)++F)).Perm ((p'::b'.toList)++((p::b.toList)++F));rw[←List.append_assoc,←List.append_assoc];exact List.perm_append_comm.append_right _
 |trans _ _ ih1 ih2=>
  intro F h;obtain⟨F1,h1,p1⟩:=ih1 h;obtain⟨F2,h2,p2⟩:=ih2 h1;exact⟨F2,h2,p1.trans p2⟩
theorem Hp.perm{M:Mem}{K:CH}{hs hs':List (Nat×Bw)}(h:Hp M K hs)(hp:hs.Perm hs'):Hp M K hs':=by
 obtain⟨ht,hK,F,h1,h2,h3⟩:=h
 obtain⟨F',h4,h5⟩:=h1.perm hp
 exact⟨ht,hK,F',h4,h5.nodup_iff.1 h2,λx hx=>h3 x (h5.mem_iff.2 hx)⟩
theorem Hp.tail{M:Mem}{K:CH}{x:Nat×Bw}{hs:List (Nat×Bw)}(h:Hp M K (x::hs)):Hp M K hs:=by
 obtain⟨ht,hK,F,h1,h2,h3⟩:=h
 cases h1 with
 |cons hA hL=>
  have h2:=(List.nodup_cons.1 h2).2;exact⟨ht,hK,_,hL,(List.nodup_append.1 h2).2.1,λx hx=>h3 x (by simp[hx])⟩
theorem Hp.ext{M M':Mem}{K:CH}{hs:List (Nat×Bw)}(h:Hp M K hs)(hx:Ext M M'):Hp M' K hs:=by
 obtain⟨ht,hK,F,h1,h2,h3⟩:=h
 exact⟨hx.top ht,λj x hj=>⟨Nat.lt_of_lt_of_le (hK j x hj).1 hx.size,(hx.get j (hK j x hj).1).trans (hK j x hj).2⟩,F,h1.mono λx hx'=>hx.get x (h3 x hx').2,h2,λx hx'=>⟨(h3 x hx').1,Nat.lt_of_lt_of_le (h3 x hx').2 hx.size⟩⟩
theorem Hp.weak{M:Mem}{K K':CH}{hs:List (Nat×Bw)}(h:Hp M K' hs)(hw:∀j x,K j=some x->K' j=some x):Hp M K hs:=by
 obtain⟨ht,hK,F,h1,h2,h3⟩:=h
 refine⟨ht,λj x hj=>hK j x (hw j x hj),F,h1,h2,λx hx=>⟨?_,(h3 x hx).2⟩⟩
 cases hk:K x with
 |none=>rfl
 |some y=>have:=hw x y hk;rw[(h3 x hx).1]at this;cases this
def Bm(M:Mem):CH:=λj=>if j<M.size then some (M.get j)else none
theorem Hp.all{M:Mem}(h:M.top):Hp M (Bm M) []:=by
 refine⟨h,λj x hj=>?_,[], .nil,List.nodup_nil,λx hx=>by simp at hx⟩
 unfold Bm at hj
 split at hj
 ·rename_i hl;exact⟨hl,Option.some.inj hj⟩
 ·cases hj
def EE(K:CH)(b:Nat)(x:BI):CH:=λj=>if j=b then some x else K j
theorem BM(K:CH)(b:Nat)(x:BI):EE K b x b=some x:=if_pos rfl
theorem C0{K:CH}{b j:Nat}{x:BI}(h:j≠b):EE K b x j=K j:=if_neg h
theorem Hp.box{M M':Mem}{K:CH}{hs:List (Nat×Bw)}(h:Hp M K hs){b:Nat}{x:BI}(hx:Ext M M')(h1:M.size<=b)(h2:b<M'.size)(hb:M'.get b=x):Hp M' (EE K b x) hs/\∀j y,K j=some y->EE K b x j=some y:=by
 obtain⟨ht,hK,F,hL,hn,h3⟩:=h
 refine⟨⟨hx.top ht,λj y hj=>?_,F,hL.mono λx hx'=>hx.get x (h3 x hx').2,hn,λy hy=>?_⟩,λj y hj=>?_⟩
 ·by_cases hjb:j=b
  ·subst hjb;rw[BM]at hj;cases hj;exact⟨h2,hb⟩
  ·rw[C0 hjb]at hj;exact⟨Nat.lt_of_lt_of_le (hK j y hj).1 hx.size,(hx.get j (hK j y hj).1).trans (hK j y hj).2⟩
 ·have:=h3 y hy;rw[C0 (by omega)];exact⟨this.1,Nat.lt_of_lt_of_le this.2 hx.size⟩
 ·have:=(hK j y hj).1;rw[C0 (by omega)];exact hj
theorem Hp.boxP{M:Mem}{K:CH}{hs:List (Nat×Bw)}(h:Hp M K hs)(x:BI):Hp (M.push x) (EE K M.size x) hs/\∀j y,K j=some y->EE K M.size x j=some y:=
 h.box (Ext.push _ _) (Nat.le_refl _) (by show M.size<M.size+1;omega) (Mem.get_push_same _ _)
theorem Hp.push{M:Mem}{K:CH}{hs:List (Nat×Bw)}(h:Hp M K hs)(pre post:List Value)(z:Nat):Hp (M.push (.cells true (pre++ .slice none 0 0::post))) K ((M.size,⟨pre,post,z,0,[]⟩)::hs):=by
 have h':=h.ext (Ext.push M (.cells true (pre++ .slice none 0 0::post)))
 obtain⟨ht,hK,F,h1,h2,h3⟩:=h
 obtain⟨ht',hK',_⟩:=h'
 refine⟨ht',hK',M.size::((none:Option Nat).toList++F), .cons ⟨Mem.get_push_same _ _,⟨rfl,rfl⟩,by simp,rfl⟩ (h1.mono λx hx=>Mem.get_push_ne _ (by have:=(h3 x hx).2;omega) _),?_,λx hx=>?_⟩
 ·simp only[Option.toList_none,List.nil_append];exact List.nodup_cons.2 ⟨λhm=>by have:=(h3 _ hm).2;omega,h2⟩
 ·simp only[Option.toList_none,List.nil_append,List.mem_cons]at hx;rcases hx with rfl|hx
  ·refine⟨?_,by simp⟩;cases hk:K M.size with
   |none=>rfl
   |some y=>have:=(hK _ _ hk).1;omega
  ·have:=h3 x hx;exact⟨this.1,by simp;omega⟩
theorem Tn(pre post:List Value)(x y:Value):splice (pre++x::post) pre.length [y]=pre++y::post:=by
 unfold splice
 rw[List.take_left,show pre.length+ [y].length=pre.length+1 from rfl]
 simp
theorem GK{M:Mem}{K:CH}{p:Nat}{x:BI}(hK:∀j x,K j=some x->j<M.size/\M.get j=x)(hp:K p=none):∀j y,K j=some y->j< (M.set p x).size/\(M.set p x).get j=y:=by
 intro j y hj
 have hne:j≠p:=by rintro rfl;rw[hp]at hj;cases hj
 exact⟨(hK j y hj).1,(Mem.get_set_ne _ hne _).trans (hK j y hj).2⟩
theorem PB{M:Mem}{K:CH}{x:BI}(hK:∀j x,K j=some x->j<M.size/\M.get j=x):∀j y,K j=some y->j< (M.push x).size/\(M.push x).get j=y:=by
 intro j y hj
 have:=hK j y hj
 exact⟨by show j<M.size+1;omega,(Mem.get_push_ne _ (by omega) _).trans this.2⟩
theorem Rk{M M':Mem}{K:CH}(hK:∀j x,K j=some x->j<M.size/\M.get j=x)(hx:Ext M M'):∀j y,K j=some y->j<M'.size/\M'.get j=y:=by
 intro j y hj
 have:=hK j y hj
 exact⟨Nat.lt_of_lt_of_le this.1 hx.size,(hx.get j this.1).trans this.2⟩
theorem FQ{M:Mem}{p:Nat}{x:BI}(ht:M.top)(hp:p<M.size):(M.set p x).top:=λj hj=>by
 have hj:M.size<=j:=hj
 rw[Mem.get_set_ne _ (by omega)];exact ht j hj
theorem KS{M:Mem}{x:BI}(ht:M.top):(M.push x).top:=(Ext.push M x).top ht
theorem Hp.set{M:Mem}{K:CH}{p:Nat}{o:Bw}{hs:List (Nat×Bw)}(h:Hp M K ((p,o)::hs)):p<M.size/\K p=none/\∃u,(∃a,u= .slice a o.n o.n)/\M.get p= .cells true (o.pre++u::o.post)/\
  ∀pre post,Hp (M.set p (.cells true (pre++u::post))) K ((p,{o with pre:=pre,post:=post})::hs):=by
 obtain⟨ht,hK,F,h1,h2,h3⟩:=h
 cases h1 with
 |cons hA hL=>
  rename_i b F;have hp:=h3 p (List.mem_cons_self ..);have hn:=List.nodup_cons.1 h2;refine⟨hp.2,hp.1,_,?_,hA.cells,λpre post=>⟨FQ ht hp.2,GK hK hp.1,_, .cons (b:=b) ⟨Mem.get_set_same _ _ _,?_,hA.len,hA.ones⟩ (hL.mono λx hx=>Mem.get_set_ne _ (by rintro rfl;exact hn.1 (by simp[hx])) _),h2,h3⟩⟩
  ·have:=hA.buf;cases b with
   |none=>exact⟨none,by show Value.slice none 0 0=_;rw[this.1]⟩
   |some c=>exact⟨_,rfl⟩
  ·have:=hA.buf;cases b with
   |none=>exact this
   |some c=>
    show(M.set p _).get c=_;rw[Mem.get_set_ne _ (by rintro rfl;exact hn.1 (by simp))];exact this
theorem Hp.poke{M:Mem}{K:CH}{p:Nat}{o:Bw}{hs:List (Nat×Bw)}(h:Hp M K ((p,o)::hs))(hn0:0<o.n):∃c,M.get p= .cells true (o.pre++ .slice (some ⟨c,0,some o.z⟩) o.n o.n::o.post)/\M.get c= .cells true o.c/\
  ∀c',c'.length=o.c.length->c'.all one=true->Hp (M.set c (.cells true c')) K ((p,{o with c:=c'})::hs):=by
 obtain⟨ht,hK,F,h1,h2,h3⟩:=h
 cases h1 with
 |cons hA hL=>
  rename_i b F;have hn:=List.nodup_cons.1 h2;cases b with
  |none=>have h0:o.n=0:=hA.buf.1;omega
  |some c=>
   have hbuf:M.get c= .cells true o.c:=hA.buf;have hc:=h3 c (by simp);have hcp:p≠c:=by rintro rfl;exact hn.1 (by simp)
   refine⟨c,hA.cells,hbuf,λc' hl h1=>⟨FQ ht hc.2,GK hK hc.1,_, .cons (b:=some c) ⟨(Mem.get_set_ne _ hcp _).trans hA.cells,Mem.get_set_same _ _ _,hl.trans hA.len,h1⟩ (hL.mono λx hx=>Mem.get_set_ne _ (by rintro rfl;exact(List.nodup_cons.1 hn.2).1 hx) _),h2,h3⟩⟩
theorem Hp.poke2{M:Mem}{K:CH}{p p2:Nat}{o o2:Bw}{hs:List (Nat×Bw)}(h:Hp M K ((p,o)::(p2,o2)::hs))(hn0:0<o.n)(hn2:0<o2.n):∃c c2,M.get p= .cells true (o.pre++ .slice (some ⟨c,0,some o.z⟩) o.n o.n::o.post)/\M.get c= .cells true o.c/\
  M.get p2= .cells true (o2.pre++ .slice (some ⟨c2,0,some o2.z⟩) o2.n o2.n::o2.post)/\M.get c2= .cells true o2.c/\p≠c/\p2≠c/\c2≠c/\
  ∀c',c'.length=o.c.length->c'.all one=true->Hp (M.set c (.cells true c')) K ((p,{o with c:=c'})::(p2,o2)::hs):=by
 obtain⟨ht,hK,F,h1,h2,h3⟩:=h
 cases h1 with
 |cons hA hL=>
  rename_i b F;have hn:=List.nodup_cons.1 h2;cases b with
  |none=>have h0:o.n=0:=hA.buf.1;omega
  |some c=>
   have hbuf:M.get c= .cells true o.c:=hA.buf;have hc:=h3 c (by simp);have hcp:p≠c:=by rintro rfl;exact hn.1 (by simp)
   have hcF:=(List.nodup_cons.1 hn.2).1;cases hL with
   |cons hA2 hL2=>
    rename_i b2 F2;cases b2 with
    |none=>have h0:o2.n=0:=hA2.buf.1;omega
    |some c2=>
     have hp2:p2≠c:=by rintro rfl;exact hcF (by simp)
     have hc2:c2≠c:=by rintro rfl;exact hcF (by simp)
     refine⟨c,c2,hA.cells,hbuf,hA2.cells,hA2.buf,hcp,hp2,hc2,λc' hl h1=>⟨FQ ht hc.2,GK hK hc.1,_, .cons (b:=some c) ⟨(Mem.get_set_ne _ hcp _).trans hA.cells,Mem.get_set_same _ _ _,hl.trans hA.len,h1⟩ ((aI.cons hA2 hL2).mono λx hx=>Mem.get_set_ne _ (by rintro rfl;exact hcF hx) _),h2,h3⟩⟩
theorem Hp.freeze{M:Mem}{K:CH}{p:Nat}{o:Bw}{hs:List (Nat×Bw)}(h:Hp M K ((p,o)::hs)):∃(K2:CH) (a:Option Addr),(∀j x,K j=some x->K2 j=some x)/\K2 p=some (.cells true (o.pre++ .slice a o.n o.n::o.post))/\
  (0<o.n->∃c,a=some ⟨c,0,some o.z⟩/\K2 c=some (.cells true o.c)/\K c=none)/\K p=none/\Hp M K2 hs:=by
 obtain⟨ht,hK,F,h1,h2,h3⟩:=h
 cases h1 with
 |cons hA hL=>
  rename_i b F;have hp:=h3 p (List.mem_cons_self ..);have hn:=List.nodup_cons.1 h2
  have w1:∀x,∀j y,K j=some y->EE K p x j=some y:=λx j y hj=>by
   rw[C0 (by rintro rfl;rw[hp.1]at hj;cases hj)];exact hj
  cases b with
  |none=>
   have h0:o.n=0:=hA.buf.1;refine⟨EE K p (.cells true (o.pre++ .slice none o.n o.n::o.post)),none,w1 _,BM ..,λhn0=>by omega,hp.1,ht,λj x hj=>?_,F,hL,hn.2,λx hx=>?_⟩
   ·by_cases e:j=p
    ·subst e;rw[BM]at hj;cases hj;refine⟨hp.2,?_⟩;have:=hA.cells;rw[h0]at this ⊢;exact this
    ·rw[C0 e]at hj;exact hK j x hj
   ·rw[C0 (by rintro rfl;exact hn.1 (by simpa using hx))];exact h3 x (by simp[hx])
  |some c=>
   have hc:=h3 c (by simp);have hcp:c≠p:=by rintro rfl;exact hn.1 (by simp)
   have hcF:=List.nodup_cons.1 hn.2;refine⟨EE (EE K p (.cells true (o.pre++ .slice (some ⟨c,0,some o.z⟩) o.n o.n::o.post))) c (.cells true o.c),some ⟨c,0,some o.z⟩,λj y hj=>?_,?_,λ_=>⟨c,rfl,BM ..,hc.1⟩,hp.1,ht,λj x hj=>?_,F,hL,hcF.2,λx hx=>?_⟩
   ·rw[C0 (by rintro rfl;rw[hc.1]at hj;cases hj)];exact w1 _ j y hj
   ·rw[C0 (Ne.symm hcp),BM]
   ·by_cases e:j=c
    ·subst e;rw[BM]at hj;cases hj;exact⟨hc.2,hA.buf⟩
    ·rw[C0 e]at hj;by_cases e2:j=p
     ·subst e2;rw[BM]at hj;cases hj;exact⟨hp.2,hA.cells⟩
     ·rw[C0 e2]at hj;exact hK j x hj
   ·rw[C0 (by rintro rfl;exact hcF.1 hx),C0 (by rintro rfl;exact hn.1 (by simp[hx]))];exact h3 x (by simp[hx])
theorem Hp.free_set{M:Mem}{K:CH}{b:Nat}{x:BI}(h:Hp M K [])(hb:b<M.size)(hk:K b=none):Hp (M.set b x) K []:=by
 obtain⟨ht,hK,F,h1,h2,h3⟩:=h
 cases h1
 exact⟨FQ ht hb,GK hK hk,[], .nil,List.nodup_nil,λx hx=>by simp at hx⟩
theorem Hp.no{M:Mem}{K:CH}{hs:List (Nat×Bw)}(h:Hp M K hs){j:Nat}(hj:M.size<=j):K j=none:=by
 cases hk:K j with
 |none=>rfl
 |some y=>have:=h.lt hk;omega
section
variable{P:Program}{t e:TypeId}{by_:Nat}
theorem Hp.append{M:Mem}{K:CH}{p:Nat}{o:Bw}{hs:List (Nat×Bw)}(h:Hp M K ((p,o)::hs))(hu:P.underlying t=some (.slice e))(hst:Bz P t=some 1)(hs_:Bz P e=some o.z)(hz:o.z≠0)(hb:bytesOf P e=some by_)(hb0:0<by_)(h0:(Df P e 1).isSome=true)
  (hbig:(o.n+1)*by_<=140737488355328/\o.n+1<=4611686018427387904):∃a,M.get p= .cells true (o.pre++ .slice a o.n o.n::o.post)/\
  ∀(M1:Mem) (nb:Nat) (own:Bool) (new:List Value),Ext M M1->M1.get nb= .cells own new->new.length=o.z->new.all one=true->∃a' M2 M3,Bi P M1 t t (.slice a o.n o.n) (.slice (some ⟨nb,0,none⟩) 1 1)=some (.slice a' (o.n+1) (o.n+1),M2)/\
   Bx P M2 t (.slice a' (o.n+1) (o.n+1)) (.pointer (some ⟨p,o.pre.length,none⟩))=some M3/\Hp M3 K ((p,{o with n:=o.n+1,c:=o.c++new})::hs)/\M1.size<=M3.size/\∀j,M.size<=j->j<M1.size->M3.get j=M1.get j:=by
 obtain⟨ht,hK,F,h1,h2,h3⟩:=h
 cases h1 with
 |cons hA hL=>
  rename_i b F;have hp:=h3 p (List.mem_cons_self ..);have hn:=List.nodup_cons.1 h2
  have hst2:∀(M2:Mem) (u:Value) (a':Option Addr),M2.get p= .cells true (o.pre++u::o.post)->Bx P M2 t (.slice a' (o.n+1) (o.n+1)) (.pointer (some ⟨p,o.pre.length,none⟩))=some (M2.set p (.cells true (o.pre++ .slice a' (o.n+1) (o.n+1)::o.post))):=λM2 u a' hg=>by
   rw[Ce hst (n:=1) rfl hg (by simp) rfl];show some (M2.set p (.cells true (splice (o.pre++u::o.post) o.pre.length [.slice a' (o.n+1) (o.n+1)])))=_;rw[Tn]
  have hlen:∀x,lenOf (.slice (some ⟨x,0,none⟩) 1 1)=some 1:=λ_=>rfl
  have hnone:∀M1:Mem,Ext M M1->K M1.size=none:=λM1 hx=>by
   cases hk:K M1.size with
   |none=>rfl
   |some y=>have:=(hK _ _ hk).1;have:=hx.size;omega
  cases b with
  |none=>
   obtain⟨b1,b2⟩:o.n=0/\o.c= []:=hA.buf;refine⟨none,by have:=hA.cells;rw[b1]at this ⊢;exact this,λM1 nb own new hx hg hl h1=>?_⟩;have hf:Ca M1 o.z 1 (.slice (some ⟨nb,0,none⟩) 1 1)=some new:=FY (rest:= []) (by rw[List.append_nil];exact hg) (by omega);have hap:=append_nil (m:=M1) (x:= .slice (some ⟨nb,0,none⟩) 1 1) hu hs_ hz hb hb0 h0 (hlen nb) (by omega) (by rw[b1]at hbig;simpa using hbig) hf (by omega) h1
   have hgp:(M1.push (.cells true new)).get p= .cells true (o.pre++uU none o.z o.n::o.post):=by
    rw[Mem.get_push_ne _ (by have:=hx.size;omega),hx.get p hp.2];exact hA.cells
   refine⟨_,_,_,by rw[b1];exact hap,hst2 _ _ _ hgp,⟨?_,?_,p::((some M1.size).toList++F), .cons ⟨?_,?_,?_,?_⟩ (hL.mono λx hx'=>?_),?_,λx hx'=>?_⟩,?_,λj h1 h2=>?_⟩
   ·exact FQ (KS (hx.top ht)) (by have:=hx.size;show p<M1.size+1;omega)
   ·exact GK (PB (Rk hK hx)) hp.1
   ·exact Mem.get_set_same _ _ _
   ·show(Mem.set _ p _).get M1.size= .cells true (o.c++new);rw[Mem.get_set_ne _ (by have:=hx.size;omega),Mem.get_push_same,b2];rfl
   ·show(o.c++new).length=(o.n+1)*o.z;rw[List.length_append,hl,hA.len,Nat.add_mul,Nat.one_mul]
   ·show(o.c++new).all one=true;rw[List.all_append,hA.ones,h1];rfl
   ·have hxs:=(h3 x (by simp[hx'])).2;have:=hx.size;rw[Mem.get_set_ne _ (by rintro rfl;exact hn.1 (by simp[hx'])),Mem.get_push_ne _ (by omega),hx.get x hxs]
   ·have:=hx.size;refine List.nodup_cons.2 ⟨λhm=>?_,?_⟩
    ·simp only[Option.toList_some,List.cons_append,List.nil_append,List.mem_cons]at hm;rcases hm with rfl|hm
     ·omega
     ·exact hn.1 (by simp[hm])
    ·simp only[Option.toList_some,List.cons_append,List.nil_append];refine List.nodup_cons.2 ⟨λhm=>?_,(List.nodup_append.1 hn.2).2.1⟩;have:=(h3 M1.size (by simp[hm])).2;omega
   ·have:=hx.size;show K x=none/\x<M1.size+1;simp only[Option.toList_some,List.cons_append,List.nil_append,List.mem_cons]at hx';rcases hx' with rfl|rfl|hx'
    ·exact⟨hp.1,by omega⟩
    ·exact⟨hnone M1 hx,by omega⟩
    ·have:=h3 x (by simp[hx']);exact⟨this.1,by omega⟩
   ·show M1.size<=M1.size+1;omega
   ·rw[Mem.get_set_ne _ (by omega),Mem.get_push_ne _ (by omega)]
  |some c=>
   have hbuf:M.get c= .cells true o.c:=hA.buf;refine⟨_,hA.cells,λM1 nb own new hx hg hl h1=>?_⟩;have hc:=h3 c (by simp);have hcp:c≠p:=by rintro rfl;exact hn.1 (by simp)
   have hf:Ca M1 o.z 1 (.slice (some ⟨nb,0,none⟩) 1 1)=some new:=FY (rest:= []) (by rw[List.append_nil];exact hg) (by omega);have hap:=JP (m:=M1) (bk:=c) (k:=o.n) (x:= .slice (some ⟨nb,0,none⟩) 1 1) hu hs_ hz hb hb0 h0 ((hx.get c hc.2).trans hbuf) hA.len hA.ones (hlen nb) (by omega) hbig hf (by omega) h1
   have hgp:((M1.push (.cells true (o.c++new))).set c .none).get p= .cells true (o.pre++uU (some c) o.z o.n::o.post):=by
    rw[Mem.get_set_ne _ (Ne.symm hcp),Mem.get_push_ne _ (by have:=hx.size;omega),hx.get p hp.2];exact hA.cells
   refine⟨_,_,_,hap,hst2 _ _ _ hgp,⟨?_,?_,p::((some M1.size).toList++F), .cons ⟨?_,?_,?_,?_⟩ (hL.mono λx hx'=>?_),?_,λx hx'=>?_⟩,?_,λj h1 h2=>?_⟩
   ·exact FQ (FQ (KS (hx.top ht)) (by have:=hx.size;show c<M1.size+1;omega)) (by have:=hx.size;show p<M1.size+1;omega)
   ·exact GK (GK (PB (Rk hK hx)) hc.1) hp.1
   ·exact Mem.get_set_same _ _ _
   ·show(Mem.set _ p _).get M1.size= .cells true (o.c++new);rw[Mem.get_set_ne _ (by have:=hx.size;omega),Mem.get_set_ne _ (by have:=hx.size;omega),Mem.get_push_same]
   ·show(o.c++new).length=(o.n+1)*o.z;rw[List.length_append,hl,hA.len,Nat.add_mul,Nat.one_mul]
   ·show(o.c++new).all one=true;rw[List.all_append,hA.ones,h1];rfl
   ·have hxs:=(h3 x (by simp[hx'])).2;have:=hx.size;rw[Mem.get_set_ne _ (by rintro rfl;exact hn.1 (by simp[hx'])),Mem.get_set_ne _ (by rintro rfl;exact(List.nodup_cons.1 hn.2).1 hx'),Mem.get_push_ne _ (by omega),hx.get x hxs]
   ·have:=hx.size;refine List.nodup_cons.2 ⟨λhm=>?_,?_⟩
    ·simp only[Option.toList_some,List.cons_append,List.nil_append,List.mem_cons]at hm;rcases hm with rfl|hm
     ·omega
     ·exact hn.1 (by simp[hm])
    ·simp only[Option.toList_some,List.cons_append,List.nil_append];refine List.nodup_cons.2 ⟨λhm=>?_,(List.nodup_cons.1 hn.2).2⟩;have:=(h3 M1.size (by simp[hm])).2;omega
   ·have:=hx.size;show K x=none/\x<M1.size+1;simp only[Option.toList_some,List.cons_append,List.nil_append,List.mem_cons]at hx';rcases hx' with rfl|rfl|hx'
    ·exact⟨hp.1,by omega⟩
    ·exact⟨hnone M1 hx,by omega⟩
    ·have:=h3 x (by simp[hx']);exact⟨this.1,by omega⟩
   ·show M1.size<=M1.size+1;omega
   ·rw[Mem.get_set_ne _ (by omega),Mem.get_set_ne _ (by omega),Mem.get_push_ne _ (by omega)]
end
end
end Kit
end Go.DI
namespace Go.Proofs.YtgjflcgmieiafaaGreatDoor
open Go Go.DI Go.DI.Kit Go.Proofs Go.Cmp
noncomputable section
theorem kh:Tryz.prog.underlying 30=some (.slice 110):=by kernel_rfl
theorem rZ:Bz Tryz.prog 30=some 1:=by kernel_rfl
theorem mj:Bz Tryz.prog 110=some 5:=by kernel_rfl
theorem r6:bytesOf Tryz.prog 110=some 12:=by kernel_rfl
theorem r7:(Df Tryz.prog 110 1).isSome=true:=by kernel_rfl
theorem r9:Tryz.prog.underlying 74=some (.slice 3):=by kernel_rfl
theorem vH:Bz Tryz.prog 74=some 1:=by kernel_rfl
theorem xp:Bz Tryz.prog 3=some 1:=by kernel_rfl
theorem by3:bytesOf Tryz.prog 3=some 8:=by kernel_rfl
theorem ze3:(Df Tryz.prog 3 1).isSome=true:=by kernel_rfl
def Hk(l:List B9):Bw:=⟨[],[],5,l.length,l.flatMap AU⟩
def OK(a:Int)(js:List Nat):Bw:=⟨[.int .i64 a],[],1,js.length,js.map λ(j:Nat)=> .int .i64 (j:Int)⟩
def ptr(p:Nat):Value:= .pointer (some ⟨p,0,none⟩)
def Db(c o s:Int)(w r:Bool):Value:= .agg ⟨[.int .i64 c, .int .i64 o, .int .i64 s, .bool w, .bool r]⟩
def Ec(x:B9):Value:= .agg ⟨AU x⟩
def CB:Value:= .tuple ⟨[]⟩
theorem BG{α:Type}(L:Y.LK α)(body:AF->Mem->Y.ExK α->Option α)(c:Code)(h:RB c=true)(k:Nat)(t:AF)(m:Mem)(q:Y.ExK α):Gj L body c k t m q=body t m q:=Z3 L body h k t m q
theorem fq{α:Type}(cf:Y.CF α)(L:Y.LK α)(k:Nat)(t:AF)(m:Mem)(q:Y.ExK α):Y.codeF (Y.loopC TQ 0) Tryz.prog kp 1 (Y.cfT Tryz.prog cf) L 24 k t m q=Y.opsF XW Tryz.prog kp 1 (Y.cfT Tryz.prog cf) 24 XW t m λt m=>q .normal t m:=by kernel_rfl
theorem mn{α:Type}(cf:Y.CF α)(L:Y.LK α)(k:Nat)(t:AF)(m:Mem)(q:Y.ExK α):Y.codeF (Y.loopC TQ 1) Tryz.prog kp 1 (Y.cfT Tryz.prog cf) L 24 k t m q=Y.opsF da Tryz.prog kp 1 (Y.cfT Tryz.prog cf) 24 da t m λt m=>q .normal t m:=by kernel_rfl
theorem vI:Tryz.prog.funcs[35]?=some Tryz.f35:=by kernel_rfl
theorem vJ:Tryz.f35.body=some (AM Tryz.f35):=by kernel_rfl
theorem vK:Tryz.f35.ntmps=24:=by kernel_rfl
theorem n35{a b c:Value}:max [a,b,c].length Tryz.f35.ntmps=24:=by rw[vK];rfl
theorem vL:I5 Tryz.prog 35 CB=true:=by kernel_rfl
def Ml(o:C1)(k:Nat)(w i:Value)(x:B9):Prop:=∀M,M.top->1<=M.size->M.get 0= .cells false gl->∃e M',AJ Tryz.prog kp 1 o k 65 [w,i] M=some (.tuple ⟨[Ec x, .int .i64 e]⟩,M')/\Ext M M'
set_option maxHeartbeats 400000 in
theorem Pn{o:C1}{k:Nat}{K:CH}{mp:Nat}{M:Mem}{l:List B9}{hs:List (Nat×Bw)}{wc wo ws:Int}{ww wr:Bool}{i x:B9}(ho:∀a m,o 35 a m=none)(h0:K 0=some (.cells false gl))
  (hl:l.length<=1000000000) (h:Hp M K ((mp,Hk l)::hs)) (hmk:Ml o k (Db wc wo ws ww wr) (Ec i) x):
  ∃M',AJ Tryz.prog kp 1 o (k+1) 35 [ptr mp,Db wc wo ws ww wr,Ec i] M=some (CB,M')/\Hp M' K ((mp,Hk (l++ [x]))::hs):=by
 obtain⟨io,id,is,iof,im⟩:=i
 obtain⟨M2,hM2⟩:∃M2,(M.push (.cells true [.int .i64 wc, .int .i64 wo, .int .i64 ws, .bool ww, .bool wr])).push (.cells true [.int .u8 io, .int .u8 id, .int .u8 is, .int .i16 iof, .int .i32 im])=M2:=⟨_,rfl⟩
 have x2:Ext M M2:=hM2▸(Ext.push _ _).trans (Ext.push _ _)
 have g1:M2.get M.size= .cells true [.int .i64 wc, .int .i64 wo, .int .i64 ws, .bool ww, .bool wr]:=by
  rw[←hM2,Mem.get_push_ne _ (by simp),Mem.get_push_same]
 have g2:M2.get (Nat.succ M.size)= .cells true [.int .u8 io, .int .u8 id, .int .u8 is, .int .i16 iof, .int .i32 im]:=by rw[←hM2];exact Mem.get_push_same _ _
 obtain⟨e,M3,c52,x3⟩:=hmk M2 (x2.top h.top) (by have:=x2.size;have:=h.lt h0;omega) ((x2.get 0 (h.lt h0)).trans (h.get h0))
 obtain⟨M4,hM4⟩:∃M4,M3.push (.cells true [.int .u8 0, .int .u8 0, .int .u8 0, .int .i16 0, .int .i32 0])=M4:=⟨_,rfl⟩
 have hst:Bx Tryz.prog M4 110 (Ec x) (.pointer (some ⟨M3.size,0,none⟩))=some (M4.set M3.size (.cells true (AU x))):=
  Ce (c:= [.int .u8 0, .int .u8 0, .int .u8 0, .int .i16 0, .int .i32 0]) mj rfl (by rw[←hM4];exact Mem.get_push_same _ _) (by decide) rfl
 obtain⟨M5,hM5⟩:∃M5,M4.set M3.size (.cells true (AU x))=M5:=⟨_,rfl⟩
 have g5:M5.get M3.size= .cells true (AU x):=by rw[←hM5];exact Mem.get_set_same _ _ _
 rw[hM5]at hst
 have x5:Ext M M5:=by
  have x3':=x2.trans x3;subst hM5 hM4;refine⟨by have:=x3'.size;show M.size<=M3.size+1;omega,λj hj=>?_,λt j hj=>?_⟩
  ·have:=x3'.size;rw[Mem.get_set_ne _ (by omega),Mem.get_push_ne _ (by omega)];exact x3'.get j hj
  ·have hj:M3.size+1<=j:=hj;rw[Mem.get_set_ne _ (by omega),Mem.get_push_ne _ (by omega)];exact x3'.top t j (by omega)
 obtain⟨M6,hM6⟩:∃M6,M5.push (.cells true (AU x))=M6:=⟨_,rfl⟩
 have x6:Ext M M6:=hM6▸x5.trans (Ext.push _ _)
 obtain⟨a,gm,happ⟩:=h.append kh rZ mj (show(5:Nat)≠0 by decide) r6 (by decide) r7 (by show(l.length+1)*12<=_/\l.length+1<=_;omega)
 obtain⟨a',M7,M8,p1,p2,h8,_,_⟩:=happ M6 M5.size true (AU x) x6 (by rw[←hM6];exact Mem.get_push_same _ _) rfl rfl
 have gm5:M5.get mp= .cells true [.slice a l.length l.length]:=by
  have hlt:=h.set.1;exact(x5.get mp hlt).trans gm
 have hres:Hp M8 K ((mp,Hk (l++ [x]))::hs):=by
  have e1:({Hk l with n:=(Hk l).n+1,c:=(Hk l).c++AU x}:Bw)=Hk (l++ [x]):=by simp[Hk]
  rw[e1]at h8;exact h8
 refine⟨M8,CJ 24 (ho _ _) vI vJ n35 ?_ vL,hres⟩
 refine Eq.trans (VI [2] Tryz.prog kp 1 _ _ 24 k (AM Tryz.f35) (by kernel_rfl) _ M _) ?_
 refine Eq.trans (BW [1,2] Tryz.prog kp 1 _ (Y.lpOf Tryz.prog kp 1 (AJ Tryz.prog kp 1 o k) 24) (λ_ _ _ _ _ _ _=>rfl) 24 k (calm [2] (AM Tryz.f35)) (by kernel_rfl) _ M _) ?_
 refine Eq.trans (mo ..) ?_
 refine Eq.trans (BG _ _ _ (by kernel_rfl) _ _ _ _) ?_
 refine Eq.trans (fq ..) ?_
 refine Eq.trans (By 7 ..) ?_
 refine Eq.trans (mq ..) ?_
 rw[hM2,g1,AR]
 rw[show Nat.ble 5 (Y.lenLF [Value.int .i64 wc, .int .i64 wo, .int .i64 ws, .bool ww, .bool wr])=true from rfl,AH,g2,AR]
 rw[show Nat.ble 5 (Y.lenLF [Value.int .u8 io, .int .u8 id, .int .u8 is, .int .i16 iof, .int .i32 im])=true from rfl,AH]
 rw[show Y.subL [Value.int .i64 wc, .int .i64 wo, .int .i64 ws, .bool ww, .bool wr] 0 5= [Value.int .i64 wc, .int .i64 wo, .int .i64 ws, .bool ww, .bool wr]from rfl]
 rw[show Y.subL [Value.int .u8 io, .int .u8 id, .int .u8 is, .int .i16 iof, .int .i32 im] 0 5= [Value.int .u8 io, .int .u8 id, .int .u8 is, .int .i16 iof, .int .i32 im]from rfl]
 have c52':AJ Tryz.prog kp 1 o k 65 [.agg ⟨[.int .i64 wc, .int .i64 wo, .int .i64 ws, .bool ww, .bool wr]⟩, .agg ⟨[.int .u8 io, .int .u8 id, .int .u8 is, .int .i16 iof, .int .i32 im]⟩] M2=some (.tuple ⟨[.agg ⟨AU x⟩, .int .i64 e]⟩,M3):=c52
 simp only[ke,c52',Kl,P6,Mb,Up,BF,mr,CN,AH]
 rw[hM4]
 refine Eq.trans (mu ..) ?_
 rw[Y.storeF_eq,show Bx Tryz.prog M4 110 (.agg ⟨AU x⟩) (.pointer (some ⟨M3.size,0,none⟩))=some M5 from hst,Y.ob_some]
 refine Eq.trans (mv ..) ?_
 refine Eq.trans (BG _ _ _ (by kernel_rfl) _ _ _ _) ?_
 refine Eq.trans (mn ..) ?_
 refine Eq.trans (By 6 ..) ?_
 refine Eq.trans (mw ..) ?_
 rw[gm5,AR,show Y.nthL [Value.slice a l.length l.length] 0=some (.slice a l.length l.length)from rfl,BN,Dk,g5,AR]
 rw[show Nat.ble 5 (Y.lenLF (AU x))=true from rfl,AH,show Y.subL (AU x) 0 5=AU x from rfl]
 refine Eq.trans (By 1 ..) ?_
 refine Eq.trans (ft ..) ?_
 obtain⟨xo,xd,xs,xf,xm⟩:=x
 rw[show M5.push (.cells true [.int .u8 xo, .int .u8 xd, .int .u8 xs, .int .i16 xf, .int .i32 xm])=M6 from hM6]
 rw[show List.drop 1 (List.drop 6 da)=List.drop 7 da by rw[List.drop_drop]]
 refine Eq.trans (my ..) ?_
 rw[Y.appendF_eq,show Bi Tryz.prog M6 30 30 (.slice a l.length l.length) (.slice (some ⟨M5.size,0,none⟩) 1 1)=_ from p1,Kl,Y.storeF_eq,show Bx Tryz.prog M7 30 _ (.pointer (some ⟨mp,0,none⟩))=_ from p2,Y.ob_some]
 exact nA ..
theorem vM:Tryz.prog.funcs[37]?=some Tryz.f37:=by kernel_rfl
theorem vN:Tryz.f37.body=some (AM Tryz.f37):=by kernel_rfl
theorem vO:Tryz.f37.ntmps=26:=by kernel_rfl
theorem n37{a b c d:Value}:max [a,b,c,d].length Tryz.f37.ntmps=26:=by rw[vO];rfl
theorem vP:I5 Tryz.prog 37 CB=true:=by kernel_rfl
theorem nB{α:Type}(cf:Y.CF α)(L:Y.LK α)(k:Nat)(t:AF)(m:Mem)(q:Y.ExK α):Y.codeF (Y.loopC qg 0) Tryz.prog kp 1 (Y.cfT Tryz.prog cf) L 26 k t m q=Y.opsF qh Tryz.prog kp 1 (Y.cfT Tryz.prog cf) 26 qh t m λt m=>q .normal t m:=by kernel_rfl
set_option maxHeartbeats 400000 in
theorem Z4{o:C1}{k:Nat}{K:CH}{mp lp:Nat}{M:Mem}{l:List B9}{at_:Int}{js:List Nat}{hs:List (Nat×Bw)}{wc wo ws:Int}{ww wr:Bool}{i x:B9}(ho:∀a m,o 35 a m=none)(ho2:∀a m,o 37 a m=none)(h0:K 0=some (.cells false gl))
  (hl:l.length<=1000000000) (hj:js.length<=1000000000) (h:Hp M K ((mp,Hk l)::(lp,OK at_ js)::hs)) (hmk:Ml o k (Db wc wo ws ww wr) (Ec i) x):
  ∃M',AJ Tryz.prog kp 1 o (k+2) 37 [ptr mp,Db wc wo ws ww wr,Ec i,ptr lp] M=some (CB,M')/\Hp M' K ((mp,Hk (l++ [x]))::(lp,OK at_ (js++ [l.length]))::hs):=by
 obtain⟨io,id,is,iof,im⟩:=i
 obtain⟨M2,hM2⟩:∃M2,(M.push (.cells true [.int .i64 wc, .int .i64 wo, .int .i64 ws, .bool ww, .bool wr])).push (.cells true [.int .u8 io, .int .u8 id, .int .u8 is, .int .i16 iof, .int .i32 im])=M2:=⟨_,rfl⟩
 have x2:Ext M M2:=hM2▸(Ext.push _ _).trans (Ext.push _ _)
 have s2:M2.size=M.size+2:=by rw[←hM2];rfl
 have g1:M2.get M.size= .cells true [.int .i64 wc, .int .i64 wo, .int .i64 ws, .bool ww, .bool wr]:=by
  rw[←hM2,Mem.get_push_ne _ (by simp),Mem.get_push_same]
 have g2:M2.get (Nat.succ M.size)= .cells true [.int .u8 io, .int .u8 id, .int .u8 is, .int .i16 iof, .int .i32 im]:=by rw[←hM2];exact Mem.get_push_same _ _
 have h':=h.perm (List.Perm.swap (lp,OK at_ js) (mp,Hk l) hs)
 obtain⟨hmp,_,u,⟨am,rfl⟩,gm,_⟩:=h.set
 have hlp:=h'.set.1
 obtain⟨a,gl_,happ⟩:=h'.append r9 vH xp (show(1:Nat)≠0 by decide) by3 (by decide) ze3 (by show(js.length+1)*8<=_/\js.length+1<=_;omega)
 obtain⟨M6,hM6⟩:∃M6,M2.push (.cells true [.int .i64 (Int.ofNat l.length)])=M6:=⟨_,rfl⟩
 have x6:Ext M M6:=hM6▸x2.trans (Ext.push _ _)
 have s6:M6.size=M.size+3:=by rw[←hM6];show M2.size+1=_;omega
 obtain⟨a',M7,M8,p1,p2,h8,_,fr⟩:=happ M6 M2.size true [.int .i64 (Int.ofNat l.length)] x6 (by rw[←hM6];exact Mem.get_push_same _ _) rfl rfl
 have e1:({OK at_ js with n:=(OK at_ js).n+1,c:=(OK at_ js).c++ [.int .i64 (Int.ofNat l.length)]}:Bw)=OK at_ (js++ [l.length]):=by simp[OK]
 rw[e1]at h8
 have gm2:M2.get mp= .cells true [.slice am l.length l.length]:=(x2.get mp hmp).trans gm
 have gl2:M2.get lp= .cells true [.int .i64 at_, .slice a js.length js.length]:=(x2.get lp hlp).trans gl_
 have q1:M8.get M.size= .cells true [.int .i64 wc, .int .i64 wo, .int .i64 ws, .bool ww, .bool wr]:=by
  rw[fr _ (by omega) (by omega),←hM6,Mem.get_push_ne _ (by omega)];exact g1
 have q2:M8.get (Nat.succ M.size)= .cells true [.int .u8 io, .int .u8 id, .int .u8 is, .int .i16 iof, .int .i32 im]:=by
  rw[fr _ (by omega) (by omega),←hM6,Mem.get_push_ne _ (by omega)];exact g2
 obtain⟨M9,TQ,h9⟩:=Pn (k:=k) (hs:=(lp,OK at_ (js++ [l.length]))::hs) (i:=⟨io,id,is,iof,im⟩) ho h0 hl (h8.perm (List.Perm.swap (mp,Hk l) (lp,OK at_ (js++ [l.length])) hs)) hmk
 refine⟨M9,CJ 26 (ho2 _ _) vM vN n37 ?_ vP,h9⟩
 refine Eq.trans (VI [1] Tryz.prog kp 1 _ _ 26 (k+1) (AM Tryz.f37) (by kernel_rfl) _ M _) ?_
 refine Eq.trans (BW [1] Tryz.prog kp 1 _ (Y.lpOf Tryz.prog kp 1 (AJ Tryz.prog kp 1 o (k+1)) 26) (λ_ _ _ _ _ _ _=>rfl) 26 (k+1) (calm [1] (AM Tryz.f37)) (by kernel_rfl) _ M _) ?_
 refine Eq.trans (fv ..) ?_
 rw[hM2]
 refine Eq.trans (BG _ _ _ (by kernel_rfl) _ _ _ _) ?_
 refine Eq.trans (nB ..) ?_
 refine Eq.trans (By 11 ..) ?_
 refine Eq.trans (fw ..) ?_
 rw[gl2,AR,show Y.nthL [Value.int .i64 at_,Value.slice a js.length js.length] 1=some (.slice a js.length js.length)from rfl,BN,Dk,gm2,AR,show Y.nthL [Value.slice am l.length l.length] 0=some (.slice am l.length l.length)from rfl,BN,Dk,hM6]
 refine Eq.trans (fx ..) ?_
 rw[Y.appendF_eq,show Bi Tryz.prog M6 74 74 (.slice a js.length js.length) (.slice (some ⟨M2.size,0,none⟩) 1 1)=_ from p1,Kl,Y.storeF_eq,show Bx Tryz.prog M7 74 _ (.pointer (some ⟨lp,1,none⟩))=_ from p2,Y.ob_some]
 refine Eq.trans (fy ..) ?_
 rw[q1,AR]
 rw[show Nat.ble 5 (Y.lenLF [Value.int .i64 wc, .int .i64 wo, .int .i64 ws, .bool ww, .bool wr])=true from rfl,AH,q2,AR]
 rw[show Nat.ble 5 (Y.lenLF [Value.int .u8 io, .int .u8 id, .int .u8 is, .int .i16 iof, .int .i32 im])=true from rfl,AH]
 rw[show Y.subL [Value.int .i64 wc, .int .i64 wo, .int .i64 ws, .bool ww, .bool wr] 0 5= [Value.int .i64 wc, .int .i64 wo, .int .i64 ws, .bool ww, .bool wr]from rfl]
 rw[show Y.subL [Value.int .u8 io, .int .u8 id, .int .u8 is, .int .i16 iof, .int .i32 im] 0 5= [Value.int .u8 io, .int .u8 id, .int .u8 is, .int .i16 iof, .int .i32 im]from rfl]
 rw[ke,show AJ Tryz.prog kp 1 o (k+1) 35 [.pointer (some ⟨mp,0,none⟩), .agg ⟨[.int .i64 wc, .int .i64 wo, .int .i64 ws, .bool ww, .bool wr]⟩, .agg ⟨[.int .u8 io, .int .u8 id, .int .u8 is, .int .i16 iof, .int .i32 im]⟩] M8=some (CB,M9)from TQ,Kl]
 rfl
theorem vQ:Tryz.prog.funcs[42]?=some Tryz.f42:=by kernel_rfl
theorem vR:Tryz.f42.body=some (AM Tryz.f42):=by kernel_rfl
theorem vS:Tryz.f42.ntmps=28:=by kernel_rfl
theorem n42{a b c:Value}:max [a,b,c].length Tryz.f42.ntmps=28:=by rw[vS];rfl
theorem vT:I5 Tryz.prog 42 CB=true:=by kernel_rfl
theorem nC{α:Type}(cf:Y.CF α)(L:Y.LK α)(k:Nat)(t:AF)(m:Mem)(q:Y.ExK α):Y.codeF (Y.loopC qi 0) Tryz.prog kp 1 (Y.cfT Tryz.prog cf) L 28 k t m q=Y.opsF qj Tryz.prog kp 1 (Y.cfT Tryz.prog cf) 28 qj t m λt m=>q .normal t m:=by kernel_rfl
theorem fz(l:List B9)(x:B9):({Hk l with n:=(Hk l).n+1,c:=(Hk l).c++AU x}:Bw)=Hk (l++ [x]):=by simp[Hk]
theorem nD{K:CH}{mp:Nat}{M:Mem}{l:List B9}{hs:List (Nat×Bw)}(hl:l.length<=1000000000)(h:Hp M K ((mp,Hk l)::hs))(x:B9){M1:Mem}{nb:Nat}(hx:Ext M M1)(hn:M1.get nb= .cells true (AU x)):
  ∃a a' M2 M3,M.get mp= .cells true [.slice a l.length l.length]/\Bi Tryz.prog M1 30 30 (.slice a l.length l.length) (.slice (some ⟨nb,0,none⟩) 1 1)=some (.slice a' (l.length+1) (l.length+1),M2)/\Bx Tryz.prog M2 30 (.slice a' (l.length+1) (l.length+1)) (.pointer (some ⟨mp,0,none⟩))=some M3/\Hp M3 K ((mp,Hk (l++ [x]))::hs):=by
 obtain⟨a,gm,happ⟩:=h.append kh rZ mj (show(5:Nat)≠0 by decide) r6 (by decide) r7 (by show(l.length+1)*12<=_/\l.length+1<=_;omega)
 obtain⟨a',M7,M8,p1,p2,h8,_,_⟩:=happ M1 nb true (AU x) hx hn rfl rfl
 rw[fz]at h8
 exact⟨a,a',M7,M8,gm,p1,p2,h8⟩
def XX(n:Int):Int:=IntKind.wrap .i32 (IntKind.wrap .u32 n)
set_option maxHeartbeats 400000 in
theorem XY{o:C1}{k:Nat}{K:CH}{mp:Nat}{M:Mem}{l:List B9}{hs:List (Nat×Bw)}{d n:Int}{x:B9}(ho:∀a m,o 35 a m=none)(ho2:∀a m,o 42 a m=none)(h0:K 0=some (.cells false gl))
  (hl:l.length<=100000000) (h:Hp M K ((mp,Hk l)::hs)) (hmk:Ml o k (Db 10 0 0 false false) (Ec ⟨0,d,0,0,XX n⟩) x):
  ∃M',AJ Tryz.prog kp 1 o (k+2) 42 [ptr mp, .int .u8 d, .int .u64 n] M=some (CB,M')/\Hp M' K ((mp,Hk (l++ [x,⟨0,0,0,0,XX (Int.fdiv n 4294967296)⟩]))::hs):=by
 obtain⟨M1,TQ,h1⟩:=Pn (k:=k) ho h0 (by omega) h hmk
 obtain⟨a,a',M7,M8,gm,p1,p2,h8⟩:=nD (by simp;omega) h1 ⟨0,0,0,0,XX (Int.fdiv n 4294967296)⟩ (Ext.push M1 (.cells true (AU ⟨0,0,0,0,XX (Int.fdiv n 4294967296)⟩))) (Mem.get_push_same _ _)
 rw[List.append_assoc]at h8
 refine⟨M8,CJ 28 (ho2 _ _) vQ vR n42 ?_ vT,h8⟩
 refine Eq.trans (BW [1] Tryz.prog kp 1 _ (Y.lpOf Tryz.prog kp 1 (AJ Tryz.prog kp 1 o (k+1)) 28) (λ_ _ _ _ _ _ _=>rfl) 28 (k+1) (AM Tryz.f42) (by kernel_rfl) _ M _) ?_
 refine Eq.trans (nE ..) ?_
 rw[ke,show AJ Tryz.prog kp 1 o (k+1) 35 [.pointer (some ⟨mp,0,none⟩), .agg ⟨[.int .i64 10, .int .i64 0, .int .i64 0, .bool false, .bool false]⟩, .agg ⟨[.int .u8 0, .int .u8 d, .int .u8 0, .int .i16 0, .int .i32 (IntKind.wrap .i32 (IntKind.wrap .u32 n))]⟩] M=some (CB,M1)from TQ,Kl]
 refine Eq.trans (BG _ _ _ (by kernel_rfl) _ _ _ _) ?_
 refine Eq.trans (nC ..) ?_
 refine Eq.trans (By 11 ..) ?_
 refine Eq.trans (nF ..) ?_
 obtain⟨l1,hl1⟩:∃l1,l++ [x]=l1:=⟨_,rfl⟩
 rw[hl1]at gm p1 p2
 rw[gm,AR,show Y.nthL [Value.slice a l1.length l1.length] 0=some (.slice a l1.length l1.length)from rfl,BN,Dk]
 refine Eq.trans (nH ..) ?_
 rw[Y.appendF_eq,show Bi Tryz.prog (M1.push (.cells true [.int .u8 0, .int .u8 0, .int .u8 0, .int .i16 0, .int .i32 (IntKind.wrap .i32 (IntKind.wrap .u32 (Int.fdiv n 4294967296)))])) 30 30 (.slice a l1.length l1.length) (.slice (some ⟨M1.size,0,none⟩) 1 1)=_ from p1,Kl,Y.storeF_eq,show Bx Tryz.prog M7 30 _ (.pointer (some ⟨mp,0,none⟩))=_ from p2,Y.ob_some]
 exact nI ..
end
end Go.Proofs.YtgjflcgmieiafaaGreatDoor
namespace Go.Cmp
open Go Go.DI
theorem J2(f:Nat->Option Nat)(a:List BB)(x:B9):Cj f (a++ [ins x 0]) 0=Cj f a 0++ [x]:=by
 rw[Dz];simp[Cj,ins,B4]
theorem TW{f:Nat->Option Nat}(a:List BB)(x:B9){l:Nat}(hf:f l=none):Cj f (a++ [ins x l]) 0=Cj f a 0++ [x]:=by
 rw[Dz];simp[Cj,ins,B4,hf]
theorem Og(f:Nat->Option Nat)(a:List BB){l:Nat}(hl:0<l):Cj f (a++ [lab l]) 0=Cj f a 0:=by
 rw[Dz];simp[Cj,lab,B4,hl]
theorem Mn:∀a:List BB,B3 a<=a.length
 | []=>Nat.le_refl _
 |r::a=>by
  have:=Mn a;simp only[B3,List.length_cons];split<;>omega
theorem Om(a:List BB)(x:B9)(to l:Nat):Br l (a++ [ins x to]) 0=Br l a 0++(if to=l then [B3 a]else []):=by
 rw[FV];simp[Br,ins,B4]
theorem Ku(a:List BB)(l:Nat){l':Nat}(hl:0<l'):Br l (a++ [lab l']) 0=Br l a 0:=by
 rw[FV];simp[Br,lab,B4,hl]
theorem Fm(l:Nat):∀(a:List BB) (n:Nat),(Br l a n).length<=B3 a
 | [],n=>Nat.le_refl _
 |r::a,n=>by
  have h1:=Fm l a n;have h2:=Fm l a (n+1);simp only[Br,B3];split
  ·exact h1
  ·rw[List.length_append];split
   ·simp;omega
   ·simp;omega
theorem Hz{l:Nat}:∀(a:List BB) (n:Nat),(∀r∈a,r.to≠l)->Br l a n= []
 | [],n,_=>rfl
 |r::a,n,h=>by
  simp only[Br];rw[Hz a n λr hr=>h r (by simp[hr]),Hz a (n+1) λr hr=>h r (by simp[hr]),if_neg (h r (by simp))];simp
theorem G4:∀(a b:List BB) (n:Nat) (f:Nat->Nat),HX (a++b) n f=HX b (n+B3 a) (HX a n f)
 | [],b,n,f=>by simp[HX,B3]
 |r::a,b,n,f=>by
  simp only[List.cons_append,HX,B3];split
  ·exact G4 a b n _
  ·rw[G4 a b (n+1) f,show n+1+B3 a=n+(B3 a+1)by omega]
theorem Ib(a:List BB)(x:B9)(to l:Nat):Jy (a++ [ins x to]) l=Jy a l:=by
 unfold Jy;rw[G4];simp[HX,ins,B4]
theorem KF(a:List BB){l:Nat}(hl:0<l)(j:Nat):Jy (a++ [lab l]) j=if j=l then B3 a else Jy a j:=by
 unfold Jy;rw[G4];simp[HX,lab,B4,hl]
theorem Mr{l:Nat}(hl:0<l):∀(a:List BB) (n:Nat) (f:Nat->Nat),(∀r∈a,r.here≠l)->HX a n f l=f l
 | [],n,f,_=>rfl
 |r::a,n,f,h=>by
  simp only[HX];split
  ·rw[Mr hl a n _ λr hr=>h r (by simp[hr]),if_neg (λe=>h r (by simp) e.symm)]
  ·exact Mr hl a (n+1) f λr hr=>h r (by simp[hr])
theorem X5{l:Nat}(hl:0<l)(a:List BB)(h:∀r∈a,r.here≠l):Jy a l=0:=Mr hl a 0 _ h
theorem TX:∀(a:List BB) (n:Nat) (f:Nat->Nat) (c:Nat),n+B3 a<=c->(∀j,f j<=c)->∀j,HX a n f j<=c
 | [],n,f,c,_,hf,j=>hf j
 |r::a,n,f,c,hc,hf,j=>by
  simp only[HX,B3]at hc ⊢;split
  ·rename_i h;rw[if_pos h]at hc;refine TX a n _ c hc (λj=>?_) j;split
   ·omega
   ·exact hf j
  ·rename_i h;rw[if_neg h]at hc;exact TX a (n+1) f c (by omega) hf j
theorem gK(a:List BB)(j:Nat):Jy a j<=B3 a:=TX a 0 _ _ (by omega) (λ_=>Nat.zero_le _) j
theorem TY(f:Nat->Option Nat)(a:List BB)(hs:∀l q,f l=some q->q=Jy a l)(hk:∀r∈a,0<r.to->(f r.to).isSome):Cj f a 0=Bf a:=by
 refine J1 f _ a 0 λr hr _ h0=>?_
 have h1:=hk r hr h0
 cases h:f r.to with
 |none=>rw[h]at h1;cases h1
 |some q=>rw[hs _ _ h]
end Go.Cmp
namespace Go.Proofs.YtgjflcgmieiafaaGreatDoor
open Go Go.DI Go.DI.Kit Go.Proofs Go.Cmp
noncomputable section
def Pp(rows:List BB)(x:Nat×Nat):Nat×Bw:=(x.1,OK (Jy rows x.2:Int) (Br x.2 rows 0))
structure wM(K:CH)(mp:Nat)(f:Nat->Option Nat)(rows:List BB)(AL:List (Nat×Nat))(fr:Nat->Prop)(M:Mem):Prop where
 hp:Hp M K ((mp,Hk (Cj f rows 0))::AL.map (Pp rows))
 glob:K 0=some (.cells false gl)
 pos:∀x∈AL,0<x.2/\f x.2=none
 nod:(AL.map (·.2)).Nodup
 free:∀l,fr l->0<l/\f l=none/\(∀x∈AL,x.2≠l)/\∀r∈rows,r.to≠l/\r.here≠l
 sett:∀l q,f l=some q->q=Jy rows l
 known:∀r∈rows,0<r.to->(∃x∈AL,x.2=r.to)\/(f r.to).isSome
def St(K:CH)(mp:Nat)(rows:List BB)(AL:List (Nat×Nat))(fr:Nat->Prop)(M:Mem):Prop:=∃f,wM K mp f rows AL fr M
section
variable{K K':CH}{mp:Nat}{rows:List BB}{AL labs':List (Nat×Nat)}{fr fr':Nat->Prop}{M M':Mem}
theorem St.frees(h:St K mp rows AL fr M)(hf:∀l,fr' l->fr l):St K mp rows AL fr' M:=by
 obtain⟨f,h⟩:=h
 exact⟨f,h.hp,h.glob,h.pos,h.nod,λl hl=>h.free l (hf l hl),h.sett,h.known⟩
theorem St.weak(h:St K' mp rows AL fr M)(hg:K 0=some (.cells false gl))(hw:∀j x,K j=some x->K' j=some x):St K mp rows AL fr M:=by
 obtain⟨f,h⟩:=h
 exact⟨f,h.hp.weak hw,hg,h.pos,h.nod,h.free,h.sett,h.known⟩
theorem St.ext(h:St K mp rows AL fr M)(hx:Ext M M'):St K mp rows AL fr M':=by
 obtain⟨f,h⟩:=h
 exact⟨f,h.hp.ext hx,h.glob,h.pos,h.nod,h.free,h.sett,h.known⟩
theorem St.top(h:St K mp rows AL fr M):M.top:=by obtain⟨f,h⟩:=h;exact h.hp.top
theorem St.get(h:St K mp rows AL fr M){j:Nat}{x:BI}(hj:K j=some x):M.get j=x:=by obtain⟨f,h⟩:=h;exact h.hp.get hj
theorem St.lt(h:St K mp rows AL fr M){j:Nat}{x:BI}(hj:K j=some x):j<M.size:=by obtain⟨f,h⟩:=h;exact h.hp.lt hj
theorem St.glb(h:St K mp rows AL fr M):K 0=some (.cells false gl):=by obtain⟨f,h⟩:=h;exact h.glob
theorem St.box(h:St K mp rows AL fr M)(x:BI):St (EE K M.size x) mp rows AL fr (M.push x)/\∀j y,K j=some y->EE K M.size x j=some y:=by
 obtain⟨f,h⟩:=h
 have hb:=h.hp.boxP x
 exact⟨⟨f,hb.1,hb.2 _ _ h.glob,h.pos,h.nod,h.free,h.sett,h.known⟩,hb.2⟩
theorem St.perm(h:St K mp rows AL fr M)(hp:AL.Perm labs'):St K mp rows labs' fr M:=by
 obtain⟨f,h⟩:=h
 exact⟨f,h.hp.perm ((hp.map _).cons _),h.glob,λx hx=>h.pos x (hp.mem_iff.2 hx),(hp.map _).nodup_iff.1 h.nod,λl hl=>⟨(h.free l hl).1,(h.free l hl).2.1,λx hx=>(h.free l hl).2.2.1 x (hp.mem_iff.2 hx),(h.free l hl).2.2.2⟩,h.sett,λr hr h0=>by
  rcases h.known r hr h0 with⟨x,hx,he⟩|hs
  ·exact .inl ⟨x,hp.mem_iff.1 hx,he⟩
  ·exact .inr hs⟩
theorem St.label(h:St K mp rows AL fr M){l:Nat}(hl:fr l):St K mp rows ((M.size,l)::AL) (λj=>fr j/\j≠l) (M.push (.cells true [.int .i64 0, .slice none 0 0])):=by
 obtain⟨f,h⟩:=h
 obtain⟨h0,h1,h2,h3⟩:=h.free l hl
 refine⟨f,?_,h.glob,?_,?_,?_,h.sett,?_⟩
 ·have hp:=h.hp.push [.int .i64 0] [] 1
  have e:Pp rows (M.size,l)=(M.size,⟨[.int .i64 0],[],1,0,[]⟩):=by
   simp only[Pp,X5 h0 rows (λr hr=>(h3 r hr).2),Hz rows 0 (λr hr=>(h3 r hr).1)];rfl
  rw[List.map_cons,e];exact hp.perm (List.Perm.swap _ _ _)
 ·intro x hx;rcases List.mem_cons.1 hx with rfl|hx
  ·exact⟨h0,h1⟩
  ·exact h.pos x hx
 ·rw[List.map_cons];refine List.nodup_cons.2 ⟨λhm=>?_,h.nod⟩;obtain⟨x,hx,he⟩:=List.mem_map.1 hm;exact h2 x hx he
 ·intro j hj;obtain⟨g0,g1,g2,g3⟩:=h.free j hj.1;refine⟨g0,g1,λx hx=>?_,g3⟩;rcases List.mem_cons.1 hx with rfl|hx
  ·exact λe=>hj.2 e.symm
  ·exact g2 x hx
 ·intro r hr h0;rcases h.known r hr h0 with⟨x,hx,he⟩|hs
  ·exact .inl ⟨x,List.mem_cons_of_mem _ hx,he⟩
  ·exact .inr hs
theorem KJ(x:B9){to:Nat}{AL:List (Nat×Nat)}(h:∀y∈AL,y.2≠to):AL.map (Pp (rows++ [ins x to]))=AL.map (Pp rows):=by
 refine List.map_congr_left λy hy=>?_
 simp only[Pp,Ib,Om]
 rw[if_neg (λe=>h y hy e.symm),List.append_nil]
section
variable{o:C1}{k:Nat}
theorem nM{wc wo ws:Int}{ww wr:Bool}{i x:B9}(ho:∀a m,o 35 a m=none)(hl:rows.length<=100000)(h:St K mp rows AL fr M)(hmk:Ml o k (Db wc wo ws ww wr) (Ec i) x):
  ∃M',AJ Tryz.prog kp 1 o (k+1) 35 [ptr mp,Db wc wo ws ww wr,Ec i] M=some (CB,M')/\St K mp (rows++ [ins x 0]) AL fr M':=by
 obtain⟨f,h⟩:=h
 have hc:=Mn rows
 have hlen:=CE f rows 0
 obtain⟨M',c,h'⟩:=Pn ho h.glob (by omega) h.hp hmk
 refine⟨M',c,f,?_,h.glob,h.pos,h.nod,?_,?_,?_⟩
 ·rw[KJ x λy hy=>Nat.pos_iff_ne_zero.1 (h.pos y hy).1,J2];exact h'
 ·intro l hl;obtain⟨g0,g1,g2,g3⟩:=h.free l hl;refine⟨g0,g1,g2,λr hr=>?_⟩;rcases List.mem_append.1 hr with hr|hr
  ·exact g3 r hr
  ·obtain rfl:=List.mem_singleton.1 hr;exact⟨by show 0≠l;omega,by show 0≠l;omega⟩
 ·intro l q hq;rw[Ib];exact h.sett l q hq
 ·intro r hr h0;rcases List.mem_append.1 hr with hr|hr
  ·exact h.known r hr h0
  ·obtain rfl:=List.mem_singleton.1 hr;exact absurd h0 (Nat.lt_irrefl 0)
theorem gC{wc wo ws:Int}{ww wr:Bool}{i x:B9}{lp l:Nat}(hm:(lp,l)∈AL)(ho:∀a m,o 35 a m=none)(ho2:∀a m,o 37 a m=none)(hl:rows.length<=100000)(h:St K mp rows AL fr M)(hmk:Ml o k (Db wc wo ws ww wr) (Ec i) x):
  ∃M',AJ Tryz.prog kp 1 o (k+2) 37 [ptr mp,Db wc wo ws ww wr,Ec i,ptr lp] M=some (CB,M')/\St K mp (rows++ [ins x l]) AL fr M':=by
 obtain⟨l1,l2,rfl⟩:=List.append_of_mem hm
 have hp:=List.perm_middle (a:=(lp,l)) (l₁:=l1) (l₂:=l2)
 suffices hs:∃M',AJ Tryz.prog kp 1 o (k+2) 37 [ptr mp,Db wc wo ws ww wr,Ec i,ptr lp] M=some (CB,M')/\St K mp (rows++ [ins x l]) ((lp,l)::(l1++l2)) fr M' by
  obtain⟨M',c,h'⟩:=hs;exact⟨M',c,h'.perm hp.symm⟩
 obtain⟨f,h⟩:=h.perm hp
 have hc:=Mn rows
 have hlen:=CE f rows 0
 have hjl:=Fm l rows 0
 have hpos:=h.pos (lp,l) (List.mem_cons_self ..)
 have hnod:=List.nodup_cons.1 h.nod
 obtain⟨M',c,h'⟩:=Z4 (at_:=(Jy rows l:Int)) (js:=Br l rows 0) ho ho2 h.glob (by omega) (by omega) h.hp hmk
 have hne:∀y∈l1++l2,y.2≠l:=λy hy e=>hnod.1 (List.mem_map.2 ⟨y,hy,e⟩)
 refine⟨M',c,f,?_,h.glob,h.pos,h.nod,?_,?_,?_⟩
 ·rw[List.map_cons,KJ x hne,TW rows x hpos.2]
  have e:Pp (rows++ [ins x l]) (lp,l)=(lp,OK (Jy rows l:Int) (Br l rows 0++ [(Cj f rows 0).length])):=by
   simp only[Pp,Ib,Om,if_true,hlen]
  rw[e];exact h'
 ·intro j hj;obtain⟨g0,g1,g2,g3⟩:=h.free j hj;refine⟨g0,g1,g2,λr hr=>?_⟩;rcases List.mem_append.1 hr with hr|hr
  ·exact g3 r hr
  ·obtain rfl:=List.mem_singleton.1 hr;exact⟨g2 (lp,l) (List.mem_cons_self ..),by show 0≠j;omega⟩
 ·intro l q hq;rw[Ib];exact h.sett l q hq
 ·intro r hr h0;rcases List.mem_append.1 hr with hr|hr
  ·exact h.known r hr h0
  ·obtain rfl:=List.mem_singleton.1 hr;exact .inl ⟨(lp,l),List.mem_cons_self ..,rfl⟩
theorem RD{d n:Int}{x:B9}(ho:∀a m,o 35 a m=none)(ho2:∀a m,o 42 a m=none)(hl:rows.length<=100000)(h:St K mp rows AL fr M)(hmk:Ml o k (Db 10 0 0 false false) (Ec ⟨0,d,0,0,XX n⟩) x):
  ∃M',AJ Tryz.prog kp 1 o (k+2) 42 [ptr mp, .int .u8 d, .int .u64 n] M=some (CB,M')/\St K mp (rows++ [ins x 0,ins ⟨0,0,0,0,XX (Int.fdiv n 4294967296)⟩ 0]) AL fr M':=by
 obtain⟨f,h⟩:=h
 have hc:=Mn rows
 have hlen:=CE f rows 0
 obtain⟨M',c,h'⟩:=XY ho ho2 h.glob (by omega) h.hp hmk
 refine⟨M',c,f,?_,h.glob,h.pos,h.nod,?_,?_,?_⟩
 ·have hz:∀y∈AL,y.2≠0:=λy hy=>Nat.pos_iff_ne_zero.1 (h.pos y hy).1;rw[show rows++ [ins x 0,ins ⟨0,0,0,0,XX (Int.fdiv n 4294967296)⟩ 0]=(rows++ [ins x 0])++ [ins ⟨0,0,0,0,XX (Int.fdiv n 4294967296)⟩ 0]by simp,KJ _ hz,KJ _ hz,J2,J2,List.append_assoc];exact h'
 ·intro l hl;obtain⟨g0,g1,g2,g3⟩:=h.free l hl;refine⟨g0,g1,g2,λr hr=>?_⟩;rcases List.mem_append.1 hr with hr|hr
  ·exact g3 r hr
  ·simp only[List.mem_cons,List.not_mem_nil,or_false]at hr;rcases hr with rfl|rfl
   ·exact⟨by show 0≠l;omega,by show 0≠l;omega⟩
   ·exact⟨by show 0≠l;omega,by show 0≠l;omega⟩
 ·intro l q hq;rw[show rows++ [ins x 0,ins ⟨0,0,0,0,XX (Int.fdiv n 4294967296)⟩ 0]=(rows++ [ins x 0])++ [ins ⟨0,0,0,0,XX (Int.fdiv n 4294967296)⟩ 0]by simp,Ib,Ib];exact h.sett l q hq
 ·intro r hr h0;rcases List.mem_append.1 hr with hr|hr
  ·exact h.known r hr h0
  ·simp only[List.mem_cons,List.not_mem_nil,or_false]at hr;rcases hr with rfl|rfl
   ·exact absurd h0 (Nat.lt_irrefl 0)
   ·exact absurd h0 (Nat.lt_irrefl 0)
end
theorem St.made(h:St K mp rows [] fr M):Hp M K [(mp,Hk (Bf rows))]:=by
 obtain⟨f,h⟩:=h
 have e:=TY f rows h.sett λr hr h0=>by
  rcases h.known r hr h0 with⟨x,hx,_⟩|hs
  ·simp at hx
  ·exact hs
 rw[←e];exact h.hp
end
set_option maxHeartbeats 4000000
variable{α:Type}(x:Nat->Value)(cf:Y.CF α)(L:Y.LK α)(k:Nat)(m:Mem)
noncomputable def ql:Code:=D3 [3] (BK Tryz.f25 0)
noncomputable def qk:List Oper:=CA 3 (AM Tryz.f25)
noncomputable def Za:Code:=D3 [3] (BK Tryz.f26 0)
noncomputable def uV:List Oper:=CA 3 (AM Tryz.f26)
noncomputable def RE:Code:=D3 [6] (BK Tryz.f26 1)
noncomputable def nT:List Oper:=CA 6 (AM Tryz.f26)
noncomputable def Ek:Code:=D3 [13,22,24,26] (AM Tryz.f23)
noncomputable def Pt:List Oper:=CA 13 (AM Tryz.f23)
noncomputable def Pu:List Oper:=CA 22 (AM Tryz.f23)
noncomputable def Pv:List Oper:=CA 24 (AM Tryz.f23)
noncomputable def Pw:List Oper:=CA 26 (AM Tryz.f23)
theorem rq(mp:Nat)(op d n:Int)(q:Value->Mem->Option α):Y.codeF (AM Tryz.f36) Tryz.prog kp 1 (Y.cfT Tryz.prog cf) L 15 k (AB 15 (Bv [.pointer (some ⟨mp,0,none⟩),.int .i64 op,.int .u8 d,.int .i32 n])) m (Y.retF Tryz.prog Tryz.f36 q)=
 (cf 35 [.pointer (some ⟨mp,0,none⟩),.agg ⟨[.int .i64 1,.int .i64 op,.int .i64 0,.bool true,.bool false]⟩,.agg ⟨[.int .u8 0,.int .u8 d,.int .u8 0,.int .i16 0,.int .i32 n]⟩] m (λB A=>q (.tuple ⟨[]⟩) A)):=by kernel_rfl
theorem nN(mp:Nat)(op d s:Int)(q:Value->Mem->Option α):Y.codeF (AM Tryz.f19) Tryz.prog kp 1 (Y.cfT Tryz.prog cf) L 15 k (AB 15 (Bv [.pointer (some ⟨mp,0,none⟩),.int .i64 op,.int .u8 d,.int .u8 s])) m (Y.retF Tryz.prog Tryz.f19 q)=
 (cf 35 [.pointer (some ⟨mp,0,none⟩),.agg ⟨[.int .i64 1,.int .i64 op,.int .i64 0,.bool true,.bool true]⟩,.agg ⟨[.int .u8 0,.int .u8 d,.int .u8 s,.int .i16 0,.int .i32 0]⟩] m (λB A=>q (.tuple ⟨[]⟩) A)):=by kernel_rfl
theorem nO(mp:Nat)(z d s n:Int)(q:Value->Mem->Option α):Y.codeF (AM Tryz.f20) Tryz.prog kp 1 (Y.cfT Tryz.prog cf) L 19 k (AB 19 (Bv [.pointer (some ⟨mp,0,none⟩),.int .i64 z,.int .u8 d,.int .u8 s,.int .i64 n])) m (Y.retF Tryz.prog Tryz.f20 q)=
 (cf 35 [.pointer (some ⟨mp,0,none⟩),.agg ⟨[.int .i64 3,.int .i64 0,.int .i64 z,.bool false,.bool false]⟩,.agg ⟨[.int .u8 0,.int .u8 d,.int .u8 s,.int .i16 (IntKind.wrap .i16 n),.int .i32 0]⟩] m (λB A=>q (.tuple ⟨[]⟩) A)):=by kernel_rfl
theorem nP(mp lp:Nat)(op d n:Int)(q:Value->Mem->Option α):Y.codeF (AM Tryz.f22) Tryz.prog kp 1 (Y.cfT Tryz.prog cf) L 18 k (AB 18 (Bv [.pointer (some ⟨mp,0,none⟩),.int .i64 op,.int .u8 d,.int .i32 n,.pointer (some ⟨lp,0,none⟩)])) m (Y.retF Tryz.prog Tryz.f22 q)=
 (cf 37 [.pointer (some ⟨mp,0,none⟩),.agg ⟨[.int .i64 6,.int .i64 op,.int .i64 0,.bool true,.bool false]⟩,.agg ⟨[.int .u8 0,.int .u8 d,.int .u8 0,.int .i16 0,.int .i32 n]⟩,.pointer (some ⟨lp,0,none⟩)] m (λB A=>q (.tuple ⟨[]⟩) A)):=by kernel_rfl
theorem nQ(mp lp:Nat)(q:Value->Mem->Option α):Y.codeF (AM Tryz.f44) Tryz.prog kp 1 (Y.cfT Tryz.prog cf) L 9 k (AB 9 (Bv [.pointer (some ⟨mp,0,none⟩),.pointer (some ⟨lp,0,none⟩)])) m (Y.retF Tryz.prog Tryz.f44 q)=
 (cf 37 [.pointer (some ⟨mp,0,none⟩),.agg ⟨[.int .i64 7,.int .i64 0,.int .i64 0,.bool false,.bool false]⟩,.agg ⟨[.int .u8 0,.int .u8 0,.int .u8 0,.int .i16 0,.int .i32 0]⟩,.pointer (some ⟨lp,0,none⟩)] m (λB A=>q (.tuple ⟨[]⟩) A)):=by kernel_rfl
theorem nR(mp:Nat)(v:Int)(q:Value->Mem->Option α):Y.codeF (AM Tryz.f24) Tryz.prog kp 1 (Y.cfT Tryz.prog cf) L 14 k (AB 14 (Bv [.pointer (some ⟨mp,0,none⟩),.int .u32 v])) m (Y.retF Tryz.prog Tryz.f24 q)=
 (cf 35 [.pointer (some ⟨mp,0,none⟩),.agg ⟨[.int .i64 1,.int .i64 11,.int .i64 0,.bool false,.bool false]⟩,.agg ⟨[.int .u8 0,.int .u8 0,.int .u8 0,.int .i16 0,.int .i32 (IntKind.wrap .i32 v)]⟩] m (λC A=>cf 35 [.pointer (some ⟨mp,0,none⟩),.agg ⟨[.int .i64 9,.int .i64 0,.int .i64 0,.bool false,.bool false]⟩,.agg ⟨[.int .u8 0,.int .u8 0,.int .u8 0,.int .i16 0,.int .i32 0]⟩] A (λD B=>q (.tuple ⟨[]⟩) B))):=by kernel_rfl
theorem Z7(mp:Nat)(q:Value->Mem->Option α):Y.codeF (AM Tryz.f21) Tryz.prog kp 1 (Y.cfT Tryz.prog cf) L 8 k (AB 8 (Bv [.pointer (some ⟨mp,0,none⟩)])) m (Y.retF Tryz.prog Tryz.f21 q)=
 (cf 36 [.pointer (some ⟨mp,0,none⟩),.int .i64 11,.int .u8 2,.int .i32 0] m (λD A=>cf 36 [.pointer (some ⟨mp,0,none⟩),.int .i64 11,.int .u8 3,.int .i32 0] A (λE B=>cf 20 [.pointer (some ⟨mp,0,none⟩),.int .i64 4,.int .u8 8,.int .u8 6,.int .i64 0] B (λF C=>q (.tuple ⟨[]⟩) C)))):=by kernel_rfl
theorem Z9(mp lp:Nat)(op n:Int)(q:Value->Mem->Option α):Y.codeF (AM Tryz.f43) Tryz.prog kp 1 (Y.cfT Tryz.prog cf) L 25 k (AB 25 (Bv [.pointer (some ⟨mp,0,none⟩),.int .i64 op,.int .u64 n,.pointer (some ⟨lp,0,none⟩)])) m (Y.retF Tryz.prog Tryz.f43 q)=
 (cf 41 [.int .u64 n] m (λC B=>Y.asBo C (λD=>cond D (cf 22 [.pointer (some ⟨mp,0,none⟩),.int .i64 op,.int .u8 2,.int .i32 (IntKind.wrap .i32 n),.pointer (some ⟨lp,0,none⟩)] B (λE A=>q (.tuple ⟨[]⟩) A)) (cf 42 [.pointer (some ⟨mp,0,none⟩),.int .u8 3,.int .u64 n] B (λE A=>cf 37 [.pointer (some ⟨mp,0,none⟩),.agg ⟨[.int .i64 6,.int .i64 op,.int .i64 0,.bool true,.bool true]⟩,.agg ⟨[.int .u8 0,.int .u8 2,.int .u8 3,.int .i16 0,.int .i32 0]⟩,.pointer (some ⟨lp,0,none⟩)] A (λG F=>q (.tuple ⟨[]⟩) F)))) none)):=by kernel_rfl
theorem nS(mp lp:Nat)(n:Int)(q:Value->Mem->Option α):Y.codeF (AM Tryz.f38) Tryz.prog kp 1 (Y.cfT Tryz.prog cf) L 20 k (AB 20 (Bv [.pointer (some ⟨mp,0,none⟩),.int .i64 n,.pointer (some ⟨lp,0,none⟩)])) m (Y.retF Tryz.prog Tryz.f38 q)=
 (cf 22 [.pointer (some ⟨mp,0,none⟩),.int .i64 3,.int .u8 8,.int .i32 (IntKind.wrap .i32 n),.pointer (some ⟨Mem.size m,0,none⟩)] (Mem.push m (.cells true [.int .i64 0,.slice none 0 0])) (λE C=>cf 44 [.pointer (some ⟨mp,0,none⟩),.pointer (some ⟨lp,0,none⟩)] C (λF A=>cf 25 [.pointer (some ⟨mp,0,none⟩),.slice (some ⟨Mem.size A,0,none⟩) 1 1] (Mem.push A (.cells true [.pointer (some ⟨Mem.size m,0,none⟩)])) (λG B=>cf 26 [.pointer (some ⟨mp,0,none⟩),.slice (some ⟨Mem.size B,0,none⟩) 1 1] (Mem.push B (.cells true [.pointer (some ⟨Mem.size m,0,none⟩)])) (λH D=>q (.tuple ⟨[]⟩) D))))):=by kernel_rfl
theorem XZ(mp sb nn:Nat)(q:Value->Mem->Option α):Y.codeF (AM Tryz.f25) Tryz.prog kp 1 (Y.cfT Tryz.prog cf) L 21 k (AB 21 (Bv [.pointer (some ⟨mp,0,none⟩),.slice (some ⟨sb,0,none⟩) nn nn])) m (Y.retF Tryz.prog Tryz.f25 q)=
 (L (λt m q=>Y.codeF (Y.loopC (AM Tryz.f25) 0) Tryz.prog kp 1 (Y.cfT Tryz.prog cf) L 21 k t m q) (Y.loopC (AM Tryz.f25) 0) k (AB 21 (up (up Go.DI.x0 [(1,.slice (some ⟨sb,0,none⟩) nn nn)]) [(0,.pointer (some ⟨mp,0,none⟩)),(6,.slice (some ⟨sb,0,none⟩) nn nn),(7,.int .i64 (Int.ofNat nn)),(8,.int .i64 0)])) m (Y.kont Tryz.prog kp 1 (Y.cfT Tryz.prog cf) L 21 k (AM Tryz.f25) 0 (Y.retF Tryz.prog Tryz.f25 q))):=by kernel_rfl
theorem VK(mp sb nn:Nat)(i:Int)(q:Y.ExK α):Y.codeF ql Tryz.prog kp 1 (Y.cfT Tryz.prog cf) L 21 k (AB 21 (up x [(0,.pointer (some ⟨mp,0,none⟩)),(6,.slice (some ⟨sb,0,none⟩) nn nn),(7,.int .i64 nn),(8,.int .i64 i)])) m q=
 (cond (Y.ltF i (Int.ofNat nn)) (Y.onNat i (λA=>cond (Nat.blt A nn) (Y.cellsOf (Mem.get m sb) (λ_ C=>Option.elim (Y.nthL C (Nat.add 0 (Nat.mul A 1))) none (λD=>Y.asPt D (λB=>L (λt m q=>Y.codeF (Y.loopC ql 0) Tryz.prog kp 1 (Y.cfT Tryz.prog cf) L 21 k t m q) (Y.loopC ql 0) k (AB 21 (up (up x [(10,.pointer (some ⟨sb,Nat.add 0 (Nat.mul A 1),none⟩)),(9,.bool true),(11,.pointer B)]) [(0,.pointer (some ⟨mp,0,none⟩)),(5,.pointer B),(6,.slice (some ⟨sb,0,none⟩) nn nn),(7,.int .i64 (Int.ofNat nn)),(8,.int .i64 i)])) m (Y.kont Tryz.prog kp 1 (Y.cfT Tryz.prog cf) L 21 k ql 0 q)) none))) none)) (q (Ex.exit 0) (AB 21 (up (up x [(9,.bool false)]) [(0,.pointer (some ⟨mp,0,none⟩)),(5,x 5),(6,.slice (some ⟨sb,0,none⟩) nn nn),(7,.int .i64 (Int.ofNat nn)),(8,.int .i64 i)])) m)):=by kernel_rfl
theorem gG(mp lp sb nn:Nat)(i:Int)(q:AF->Mem->Option α):Y.opsF (List.take 8 qk) Tryz.prog kp 1 (Y.cfT Tryz.prog cf) 21 qk (AB 21 (up x [(0,.pointer (some ⟨mp,0,none⟩)),(5,.pointer (some ⟨lp,0,none⟩)),(6,.slice (some ⟨sb,0,none⟩) nn nn),(7,.int .i64 nn),(8,.int .i64 i)])) m q=
 (Y.cellsOf (Mem.get m mp) (λ_ B=>Option.elim (Y.nthL B 0) none (λC=>Y.asSl C (λD A E=>q (AB 21 (up (up x [(16,.slice D A E),(12,.pointer (some ⟨lp,0,none⟩)),(18,.pointer (some ⟨lp,0,none⟩)),(14,.pointer (some ⟨mp,0,none⟩)),(13,.pointer (some ⟨mp,0,none⟩)),(15,.pointer (some ⟨mp,0,none⟩))]) [(0,.pointer (some ⟨mp,0,none⟩)),(5,.pointer (some ⟨lp,0,none⟩)),(6,.slice (some ⟨sb,0,none⟩) nn nn),(7,.int .i64 (Int.ofNat nn)),(8,.int .i64 i),(17,.int .i64 (Int.ofNat A)),(19,.pointer (some ⟨lp,0,none⟩))])) m) none))):=by kernel_rfl
theorem gH(mp sb nn:Nat)(i:Int)(q:Y.ExK α):Y.kont Tryz.prog kp 1 (Y.cfT Tryz.prog cf) L 21 k ql 0 q .normal (AB 21 (up x [(0,.pointer (some ⟨mp,0,none⟩)),(6,.slice (some ⟨sb,0,none⟩) nn nn),(7,.int .i64 nn),(8,.int .i64 i)])) m=
 (q .normal (AB 21 (up (up x [(20,.int .i64 (IntKind.wrap .i64 (Int.add i 1)))]) [(0,.pointer (some ⟨mp,0,none⟩)),(6,.slice (some ⟨sb,0,none⟩) nn nn),(7,.int .i64 (Int.ofNat nn)),(8,.int .i64 (IntKind.wrap .i64 (Int.add i 1)))])) m):=by kernel_rfl
theorem TS(mp sb nn:Nat)(i:Int)(q:Value->Mem->Option α):Y.kont Tryz.prog kp 1 (Y.cfT Tryz.prog cf) L 21 k (AM Tryz.f25) 0 (Y.retF Tryz.prog Tryz.f25 q) (.exit 0) (AB 21 (up x [(0,.pointer (some ⟨mp,0,none⟩)),(6,.slice (some ⟨sb,0,none⟩) nn nn),(7,.int .i64 nn),(8,.int .i64 i)])) m=
 (q (.tuple ⟨[]⟩) m):=by kernel_rfl
theorem Zd(mp sb nn:Nat)(q:Value->Mem->Option α):Y.codeF (AM Tryz.f26) Tryz.prog kp 1 (Y.cfT Tryz.prog cf) L 40 k (AB 40 (Bv [.pointer (some ⟨mp,0,none⟩),.slice (some ⟨sb,0,none⟩) nn nn])) m (Y.retF Tryz.prog Tryz.f26 q)=
 (L (λt m q=>Y.codeF (Y.loopC (AM Tryz.f26) 0) Tryz.prog kp 1 (Y.cfT Tryz.prog cf) L 40 k t m q) (Y.loopC (AM Tryz.f26) 0) k (AB 40 (up (up Go.DI.x0 [(1,.slice (some ⟨sb,0,none⟩) nn nn)]) [(0,.pointer (some ⟨mp,0,none⟩)),(8,.slice (some ⟨sb,0,none⟩) nn nn),(9,.int .i64 (Int.ofNat nn)),(10,.int .i64 0)])) m (Y.kont Tryz.prog kp 1 (Y.cfT Tryz.prog cf) L 40 k (AM Tryz.f26) 0 (Y.retF Tryz.prog Tryz.f26 q))):=by kernel_rfl
theorem Zc(mp sb nn:Nat)(i:Int)(q:Y.ExK α):Y.codeF Za Tryz.prog kp 1 (Y.cfT Tryz.prog cf) L 40 k (AB 40 (up x [(0,.pointer (some ⟨mp,0,none⟩)),(8,.slice (some ⟨sb,0,none⟩) nn nn),(9,.int .i64 nn),(10,.int .i64 i)])) m q=
 (cond (Y.ltF i (Int.ofNat nn)) (Y.onNat i (λA=>cond (Nat.blt A nn) (Y.cellsOf (Mem.get m sb) (λ_ C=>Option.elim (Y.nthL C (Nat.add 0 (Nat.mul A 1))) none (λD=>Y.asPt D (λB=>L (λt m q=>Y.codeF (Y.loopC Za 0) Tryz.prog kp 1 (Y.cfT Tryz.prog cf) L 40 k t m q) (Y.loopC Za 0) k (AB 40 (up (up x [(12,.pointer (some ⟨sb,Nat.add 0 (Nat.mul A 1),none⟩)),(13,.pointer B),(11,.bool true)]) [(0,.pointer (some ⟨mp,0,none⟩)),(5,.pointer B),(8,.slice (some ⟨sb,0,none⟩) nn nn),(9,.int .i64 (Int.ofNat nn)),(10,.int .i64 i)])) m (Y.kont Tryz.prog kp 1 (Y.cfT Tryz.prog cf) L 40 k Za 0 q)) none))) none)) (q (Ex.exit 0) (AB 40 (up (up x [(11,.bool false)]) [(0,.pointer (some ⟨mp,0,none⟩)),(5,x 5),(8,.slice (some ⟨sb,0,none⟩) nn nn),(9,.int .i64 (Int.ofNat nn)),(10,.int .i64 i)])) m)):=by kernel_rfl
theorem nX(mp lp sb nn:Nat)(i:Int)(q:AF->Mem->Option α):Y.opsF (uV) Tryz.prog kp 1 (Y.cfT Tryz.prog cf) 40 uV (AB 40 (up x [(0,.pointer (some ⟨mp,0,none⟩)),(5,.pointer (some ⟨lp,0,none⟩)),(8,.slice (some ⟨sb,0,none⟩) nn nn),(9,.int .i64 nn),(10,.int .i64 i)])) m q=
 (Y.cellsOf (Mem.get m lp) (λ_ B=>Option.elim (Y.nthL B 1) none (λC=>Y.asSl C (λD A E=>q (AB 40 (up (up x [(16,.pointer (some ⟨lp,1,none⟩)),(14,.pointer (some ⟨lp,0,none⟩)),(15,.pointer (some ⟨lp,0,none⟩))]) [(0,.pointer (some ⟨mp,0,none⟩)),(5,.pointer (some ⟨lp,0,none⟩)),(8,.slice (some ⟨sb,0,none⟩) nn nn),(9,.int .i64 (Int.ofNat nn)),(10,.int .i64 i),(17,.slice D A E),(18,.int .i64 (Int.ofNat A)),(19,.int .i64 0)])) m) none))):=by kernel_rfl
theorem nY(mp lp sb nn jn:Nat)(ja:Option Addr)(i j:Int)(q:Y.ExK α):Y.kont Tryz.prog kp 1 (Y.cfT Tryz.prog cf) L 40 k Za 0 q .normal (AB 40 (up x [(0,.pointer (some ⟨mp,0,none⟩)),(5,.pointer (some ⟨lp,0,none⟩)),(8,.slice (some ⟨sb,0,none⟩) nn nn),(9,.int .i64 nn),(10,.int .i64 i),(17,.slice ja jn jn),(18,.int .i64 jn),(19,.int .i64 j)])) m=
 (L (λt m q=>Y.codeF (Y.loopC Za 1) Tryz.prog kp 1 (Y.cfT Tryz.prog cf) L 40 k t m q) (Y.loopC Za 1) k (AB 40 (up x [(0,.pointer (some ⟨mp,0,none⟩)),(5,.pointer (some ⟨lp,0,none⟩)),(8,.slice (some ⟨sb,0,none⟩) nn nn),(9,.int .i64 (Int.ofNat nn)),(10,.int .i64 i),(17,.slice ja jn jn),(18,.int .i64 (Int.ofNat jn)),(19,.int .i64 j)])) m (Y.kont Tryz.prog kp 1 (Y.cfT Tryz.prog cf) L 40 k Za 1 q)):=by kernel_rfl
theorem nZ(mp lp sb nn jn:Nat)(ja:Option Addr)(i j:Int)(q:Y.ExK α):Y.kont Tryz.prog kp 1 (Y.cfT Tryz.prog cf) L 40 k Za 1 q (.exit 2) (AB 40 (up x [(0,.pointer (some ⟨mp,0,none⟩)),(5,.pointer (some ⟨lp,0,none⟩)),(8,.slice (some ⟨sb,0,none⟩) nn nn),(9,.int .i64 nn),(10,.int .i64 i),(17,.slice ja jn jn),(18,.int .i64 jn),(19,.int .i64 j)])) m=
 (q .normal (AB 40 (up (up x [(18,.int .i64 (Int.ofNat jn)),(17,.slice ja jn jn),(5,.pointer (some ⟨lp,0,none⟩)),(19,.int .i64 j),(39,.int .i64 (IntKind.wrap .i64 (Int.add i 1)))]) [(0,.pointer (some ⟨mp,0,none⟩)),(8,.slice (some ⟨sb,0,none⟩) nn nn),(9,.int .i64 (Int.ofNat nn)),(10,.int .i64 (IntKind.wrap .i64 (Int.add i 1)))])) m):=by kernel_rfl
theorem X2(mp sb nn:Nat)(i:Int)(q:Value->Mem->Option α):Y.kont Tryz.prog kp 1 (Y.cfT Tryz.prog cf) L 40 k (AM Tryz.f26) 0 (Y.retF Tryz.prog Tryz.f26 q) (.exit 0) (AB 40 (up x [(0,.pointer (some ⟨mp,0,none⟩)),(8,.slice (some ⟨sb,0,none⟩) nn nn),(9,.int .i64 nn),(10,.int .i64 i)])) m=
 (q (.tuple ⟨[]⟩) m):=by kernel_rfl
theorem Zb(mp lp sb nn jb jn:Nat)(i j:Int)(q:Y.ExK α):Y.codeF RE Tryz.prog kp 1 (Y.cfT Tryz.prog cf) L 40 k (AB 40 (up x [(0,.pointer (some ⟨mp,0,none⟩)),(5,.pointer (some ⟨lp,0,none⟩)),(8,.slice (some ⟨sb,0,none⟩) nn nn),(9,.int .i64 nn),(10,.int .i64 i),(17,.slice (some ⟨jb,0,some 1⟩) jn jn),(18,.int .i64 jn),(19,.int .i64 j)])) m q=
 (cond (Y.ltF j (Int.ofNat jn)) (Y.onNat j (λA=>cond (Nat.blt A jn) (Y.cellsOf (Mem.get m jb) (λ_ C=>Option.elim (Y.nthL C (Nat.add 0 (Nat.mul A 1))) none (λD=>Y.asInt D (λE B=>cond (Y.kEq .i64 E) (L (λt m q=>Y.codeF (Y.loopC RE 0) Tryz.prog kp 1 (Y.cfT Tryz.prog cf) L 40 k t m q) (Y.loopC RE 0) k (AB 40 (up (up x [(20,.bool true),(22,.int .i64 B),(21,.pointer (some ⟨jb,Nat.add 0 (Nat.mul A 1),none⟩))]) [(0,.pointer (some ⟨mp,0,none⟩)),(5,.pointer (some ⟨lp,0,none⟩)),(7,.int .i64 B),(8,.slice (some ⟨sb,0,none⟩) nn nn),(9,.int .i64 (Int.ofNat nn)),(10,.int .i64 i),(17,.slice (some (Addr.mk jb 0 (some 1))) jn jn),(18,.int .i64 (Int.ofNat jn)),(19,.int .i64 j)])) m (Y.kont Tryz.prog kp 1 (Y.cfT Tryz.prog cf) L 40 k RE 0 q)) none) none))) none)) (q (Ex.exit 2) (AB 40 (up (up x [(20,.bool false)]) [(0,.pointer (some ⟨mp,0,none⟩)),(5,.pointer (some ⟨lp,0,none⟩)),(7,x 7),(8,.slice (some ⟨sb,0,none⟩) nn nn),(9,.int .i64 (Int.ofNat nn)),(10,.int .i64 i),(17,.slice (some (Addr.mk jb 0 (some 1))) jn jn),(18,.int .i64 (Int.ofNat jn)),(19,.int .i64 j)])) m)):=by kernel_rfl
theorem nW(mp lp sb nn jb jn:Nat)(i j:Int)(q:Y.ExK α):Y.kont Tryz.prog kp 1 (Y.cfT Tryz.prog cf) L 40 k RE 0 q .normal (AB 40 (up x [(0,.pointer (some ⟨mp,0,none⟩)),(5,.pointer (some ⟨lp,0,none⟩)),(8,.slice (some ⟨sb,0,none⟩) nn nn),(9,.int .i64 nn),(10,.int .i64 i),(17,.slice (some ⟨jb,0,some 1⟩) jn jn),(18,.int .i64 jn),(19,.int .i64 j)])) m=
 (q .normal (AB 40 (up (up x [(38,.int .i64 (IntKind.wrap .i64 (Int.add j 1)))]) [(0,.pointer (some ⟨mp,0,none⟩)),(5,.pointer (some ⟨lp,0,none⟩)),(8,.slice (some ⟨sb,0,none⟩) nn nn),(9,.int .i64 (Int.ofNat nn)),(10,.int .i64 i),(17,.slice (some (Addr.mk jb 0 (some 1))) jn jn),(18,.int .i64 (Int.ofNat jn)),(19,.int .i64 (IntKind.wrap .i64 (Int.add j 1)))])) m):=by kernel_rfl
theorem XV(mp lp:Nat)(g:Bool)(ki p s ma lo hi:Int)(q:Value->Mem->Option α):Y.codeF (AM Tryz.f39) Tryz.prog kp 1 (Y.cfT Tryz.prog cf) L 62 k (AB 62 (Bv [.pointer (some ⟨mp,0,none⟩),.agg ⟨[.bool g,.int .i64 ki,.int .i64 p,.int .i64 s,.int .u64 ma,.int .u64 lo,.int .u64 hi]⟩,.pointer (some ⟨lp,0,none⟩)])) m (Y.retF Tryz.prog Tryz.f39 q)=
 (cf 38 [.pointer (some ⟨mp,0,none⟩),.int .i64 15,.pointer (some ⟨lp,0,none⟩)] (Mem.push m (.cells true [.bool g,.int .i64 ki,.int .i64 p,.int .i64 s,.int .u64 ma,.int .u64 lo,.int .u64 hi])) (λB C=>cf 20 [.pointer (some ⟨mp,0,none⟩),.int .i64 1,.int .u8 2,.int .u8 7,.int .i64 14] C (λD E=>cf 36 [.pointer (some ⟨mp,0,none⟩),.int .i64 5,.int .u8 2,.int .i32 15] E (λF A=>L (λt m q=>Y.codeF (Y.loopC (AM Tryz.f39) 0) Tryz.prog kp 1 (Y.cfT Tryz.prog cf) L 62 k t m q) (Y.loopC (AM Tryz.f39) 0) k (AB 62 (up (up Go.DI.x0 [(16,.pointer (some ⟨mp,0,none⟩)),(12,.pointer (some ⟨lp,0,none⟩)),(14,.pointer (some ⟨mp,0,none⟩)),(1,.agg ⟨[.bool g,.int .i64 ki,.int .i64 p,.int .i64 s,.int .u64 ma,.int .u64 lo,.int .u64 hi]⟩),(17,F),(13,B),(11,.pointer (some ⟨mp,0,none⟩)),(15,D)]) [(0,.pointer (some ⟨mp,0,none⟩)),(2,.pointer (some ⟨lp,0,none⟩)),(4,.pointer (some ⟨Mem.size m,0,none⟩)),(6,.pointer (some ⟨Mem.size A,0,none⟩)),(18,.int .i64 0)])) (Mem.push A (.cells true [.int .i64 0,.slice none 0 0])) (Y.kont Tryz.prog kp 1 (Y.cfT Tryz.prog cf) L 62 k (AM Tryz.f39) 0 (Y.retF Tryz.prog Tryz.f39 q)))))):=by kernel_rfl
theorem TO(mp lp tb dl:Nat)(i:Int)(q:Y.ExK α):Y.codeF (BK Tryz.f39 0) Tryz.prog kp 1 (Y.cfT Tryz.prog cf) L 62 k (AB 62 (up x [(0,.pointer (some ⟨mp,0,none⟩)),(2,.pointer (some ⟨lp,0,none⟩)),(4,.pointer (some ⟨tb,0,none⟩)),(6,.pointer (some ⟨dl,0,none⟩)),(18,.int .i64 i)])) m q=
 (cond (Y.ltF i 16) (cond (Y.eqF i 15) (cf 22 [.pointer (some ⟨mp,0,none⟩),.int .i64 5,.int .u8 2,.int .i32 (IntKind.wrap .i32 i),.pointer (some ⟨lp,0,none⟩)] (Mem.push m (.cells true [.int .i64 0,.slice none 0 0])) (λH B=>Y.cellsOf (Mem.get B tb) (λ_ I=>Option.elim (Y.nthL I 2) none (λJ=>Y.asInt J (λN A=>cond (Y.kEq .i64 N) (Y.cellsOf (Mem.get B tb) (λ_ O=>Option.elim (Y.nthL O 3) none (λQ=>Y.asInt Q (λR C=>cond (Y.kEq .i64 R) (cf 38 [.pointer (some ⟨mp,0,none⟩),.int .i64 (IntKind.wrap .i64 (Int.add (IntKind.wrap .i64 (Int.add (IntKind.wrap .i64 (Int.add 14 (IntKind.wrap .i64 (Int.mul 4 i)))) A)) C)),.pointer (some ⟨lp,0,none⟩)] B (λS F=>Y.cellsOf (Mem.get F tb) (λ_ T=>Option.elim (Y.nthL T 3) none (λU=>Y.asInt U (λV G=>cond (Y.kEq .i64 V) (cf 20 [.pointer (some ⟨mp,0,none⟩),.int .i64 G,.int .u8 2,.int .u8 7,.int .i64 (IntKind.wrap .i64 (Int.add (IntKind.wrap .i64 (Int.add 14 (IntKind.wrap .i64 (Int.mul 4 i)))) A))] F (λW X=>cf 44 [.pointer (some ⟨mp,0,none⟩),.pointer (some ⟨dl,0,none⟩)] X (λZ D=>cf 25 [.pointer (some ⟨mp,0,none⟩),.slice (some ⟨Mem.size D,0,none⟩) 1 1] (Mem.push D (.cells true [.pointer (some ⟨Mem.size m,0,none⟩)])) (λAa E=>cf 26 [.pointer (some ⟨mp,0,none⟩),.slice (some ⟨Mem.size E,0,none⟩) 1 1] (Mem.push E (.cells true [.pointer (some ⟨Mem.size m,0,none⟩)])) (λAb Ac=>q .normal (AB 62 (up (up x [(32,.pointer (some ⟨tb,2,none⟩)),(48,Z),(8,.pointer (some ⟨Mem.size m,0,none⟩)),(40,.pointer (some ⟨lp,0,none⟩)),(24,.pointer (some ⟨mp,0,none⟩)),(36,.int .i64 (IntKind.wrap .i64 (Int.add (IntKind.wrap .i64 (Int.add 14 (IntKind.wrap .i64 (Int.mul 4 i)))) A))),(20,.int .i64 i),(52,.pointer (some ⟨mp,0,none⟩)),(44,.int .i64 G),(28,H),(34,.int .i64 (IntKind.wrap .i64 (Int.add (IntKind.wrap .i64 (Int.add 14 (IntKind.wrap .i64 (Int.mul 4 i)))) A))),(50,.slice (some ⟨Mem.size D,0,none⟩) 1 1),(10,.int .i64 (IntKind.wrap .i64 (Int.add (IntKind.wrap .i64 (Int.add 14 (IntKind.wrap .i64 (Int.mul 4 i)))) A))),(42,.pointer (some ⟨mp,0,none⟩)),(26,.int .i32 (IntKind.wrap .i32 i)),(38,.int .i64 C),(22,.bool true),(54,Ab),(46,W),(30,.int .i64 (IntKind.wrap .i64 (Int.mul 4 i))),(33,.int .i64 A),(49,.pointer (some ⟨mp,0,none⟩)),(9,.pointer (some ⟨lp,0,none⟩)),(41,S),(25,.int .i64 i),(37,.pointer (some ⟨tb,3,none⟩)),(21,.int .i64 i),(53,.slice (some ⟨Mem.size E,0,none⟩) 1 1),(45,.int .i64 (IntKind.wrap .i64 (Int.add (IntKind.wrap .i64 (Int.add 14 (IntKind.wrap .i64 (Int.mul 4 i)))) A))),(29,.int .i64 i),(35,.pointer (some ⟨mp,0,none⟩)),(19,.bool true),(51,Aa),(43,.pointer (some ⟨tb,3,none⟩)),(27,.pointer (some ⟨lp,0,none⟩)),(7,.int .i64 i),(39,.int .i64 (IntKind.wrap .i64 (Int.add (IntKind.wrap .i64 (Int.add (IntKind.wrap .i64 (Int.add 14 (IntKind.wrap .i64 (Int.mul 4 i)))) A)) C))),(23,.pointer (some ⟨lp,0,none⟩)),(55,.int .i64 (IntKind.wrap .i64 (Int.add i 1))),(47,.pointer (some ⟨mp,0,none⟩)),(31,.int .i64 (IntKind.wrap .i64 (Int.add 14 (IntKind.wrap .i64 (Int.mul 4 i)))))]) [(0,.pointer (some ⟨mp,0,none⟩)),(2,.pointer (some ⟨lp,0,none⟩)),(4,.pointer (some ⟨tb,0,none⟩)),(6,.pointer (some ⟨dl,0,none⟩)),(18,.int .i64 (IntKind.wrap .i64 (Int.add i 1)))])) Ac))))) none) none)))) none) none))) none) none)))) (cf 22 [.pointer (some ⟨mp,0,none⟩),.int .i64 5,.int .u8 2,.int .i32 (IntKind.wrap .i32 i),.pointer (some ⟨Mem.size m,0,none⟩)] (Mem.push m (.cells true [.int .i64 0,.slice none 0 0])) (λH B=>Y.cellsOf (Mem.get B tb) (λ_ I=>Option.elim (Y.nthL I 2) none (λJ=>Y.asInt J (λN A=>cond (Y.kEq .i64 N) (Y.cellsOf (Mem.get B tb) (λ_ O=>Option.elim (Y.nthL O 3) none (λQ=>Y.asInt Q (λR C=>cond (Y.kEq .i64 R) (cf 38 [.pointer (some ⟨mp,0,none⟩),.int .i64 (IntKind.wrap .i64 (Int.add (IntKind.wrap .i64 (Int.add (IntKind.wrap .i64 (Int.add 14 (IntKind.wrap .i64 (Int.mul 4 i)))) A)) C)),.pointer (some ⟨lp,0,none⟩)] B (λS F=>Y.cellsOf (Mem.get F tb) (λ_ T=>Option.elim (Y.nthL T 3) none (λU=>Y.asInt U (λV G=>cond (Y.kEq .i64 V) (cf 20 [.pointer (some ⟨mp,0,none⟩),.int .i64 G,.int .u8 2,.int .u8 7,.int .i64 (IntKind.wrap .i64 (Int.add (IntKind.wrap .i64 (Int.add 14 (IntKind.wrap .i64 (Int.mul 4 i)))) A))] F (λW X=>cf 44 [.pointer (some ⟨mp,0,none⟩),.pointer (some ⟨dl,0,none⟩)] X (λZ D=>cf 25 [.pointer (some ⟨mp,0,none⟩),.slice (some ⟨Mem.size D,0,none⟩) 1 1] (Mem.push D (.cells true [.pointer (some ⟨Mem.size m,0,none⟩)])) (λAa E=>cf 26 [.pointer (some ⟨mp,0,none⟩),.slice (some ⟨Mem.size E,0,none⟩) 1 1] (Mem.push E (.cells true [.pointer (some ⟨Mem.size m,0,none⟩)])) (λAb Ac=>q .normal (AB 62 (up (up x [(32,.pointer (some ⟨tb,2,none⟩)),(48,Z),(8,.pointer (some ⟨Mem.size m,0,none⟩)),(40,.pointer (some ⟨lp,0,none⟩)),(24,.pointer (some ⟨mp,0,none⟩)),(36,.int .i64 (IntKind.wrap .i64 (Int.add (IntKind.wrap .i64 (Int.add 14 (IntKind.wrap .i64 (Int.mul 4 i)))) A))),(20,.int .i64 i),(52,.pointer (some ⟨mp,0,none⟩)),(44,.int .i64 G),(28,H),(34,.int .i64 (IntKind.wrap .i64 (Int.add (IntKind.wrap .i64 (Int.add 14 (IntKind.wrap .i64 (Int.mul 4 i)))) A))),(50,.slice (some ⟨Mem.size D,0,none⟩) 1 1),(10,.int .i64 (IntKind.wrap .i64 (Int.add (IntKind.wrap .i64 (Int.add 14 (IntKind.wrap .i64 (Int.mul 4 i)))) A))),(42,.pointer (some ⟨mp,0,none⟩)),(26,.int .i32 (IntKind.wrap .i32 i)),(38,.int .i64 C),(22,.bool false),(54,Ab),(46,W),(30,.int .i64 (IntKind.wrap .i64 (Int.mul 4 i))),(33,.int .i64 A),(49,.pointer (some ⟨mp,0,none⟩)),(9,.pointer (some ⟨Mem.size m,0,none⟩)),(41,S),(25,.int .i64 i),(37,.pointer (some ⟨tb,3,none⟩)),(21,.int .i64 i),(53,.slice (some ⟨Mem.size E,0,none⟩) 1 1),(45,.int .i64 (IntKind.wrap .i64 (Int.add (IntKind.wrap .i64 (Int.add 14 (IntKind.wrap .i64 (Int.mul 4 i)))) A))),(29,.int .i64 i),(35,.pointer (some ⟨mp,0,none⟩)),(19,.bool true),(51,Aa),(43,.pointer (some ⟨tb,3,none⟩)),(27,.pointer (some ⟨Mem.size m,0,none⟩)),(7,.int .i64 i),(39,.int .i64 (IntKind.wrap .i64 (Int.add (IntKind.wrap .i64 (Int.add (IntKind.wrap .i64 (Int.add 14 (IntKind.wrap .i64 (Int.mul 4 i)))) A)) C))),(55,.int .i64 (IntKind.wrap .i64 (Int.add i 1))),(47,.pointer (some ⟨mp,0,none⟩)),(31,.int .i64 (IntKind.wrap .i64 (Int.add 14 (IntKind.wrap .i64 (Int.mul 4 i)))))]) [(0,.pointer (some ⟨mp,0,none⟩)),(2,.pointer (some ⟨lp,0,none⟩)),(4,.pointer (some ⟨tb,0,none⟩)),(6,.pointer (some ⟨dl,0,none⟩)),(18,.int .i64 (IntKind.wrap .i64 (Int.add i 1)))])) Ac))))) none) none)))) none) none))) none) none))))) (q (Ex.exit 0) (AB 62 (up (up x [(19,.bool false)]) [(0,.pointer (some ⟨mp,0,none⟩)),(2,.pointer (some ⟨lp,0,none⟩)),(4,.pointer (some ⟨tb,0,none⟩)),(6,.pointer (some ⟨dl,0,none⟩)),(18,.int .i64 i)])) m)):=by kernel_rfl
theorem TP(mp lp tb dl:Nat)(i:Int)(q:Value->Mem->Option α):Y.kont Tryz.prog kp 1 (Y.cfT Tryz.prog cf) L 62 k (AM Tryz.f39) 0 (Y.retF Tryz.prog Tryz.f39 q) (.exit 0) (AB 62 (up x [(0,.pointer (some ⟨mp,0,none⟩)),(2,.pointer (some ⟨lp,0,none⟩)),(4,.pointer (some ⟨tb,0,none⟩)),(6,.pointer (some ⟨dl,0,none⟩)),(18,.int .i64 i)])) m=
 (cf 25 [.pointer (some ⟨mp,0,none⟩),.slice (some ⟨Mem.size m,0,none⟩) 1 1] (Mem.push m (.cells true [.pointer (some ⟨dl,0,none⟩)])) (λC A=>cf 26 [.pointer (some ⟨mp,0,none⟩),.slice (some ⟨Mem.size A,0,none⟩) 1 1] (Mem.push A (.cells true [.pointer (some ⟨dl,0,none⟩)])) (λD B=>q (.tuple ⟨[]⟩) B))):=by kernel_rfl
theorem Px(mp lp:Nat)(g:Bool)(ki p s ma lo hi:Int)(q:Value->Mem->Option α):Y.codeF Ek Tryz.prog kp 1 (Y.cfT Tryz.prog cf) L 133 k (AB 133 (Bv [.pointer (some ⟨mp,0,none⟩),.agg ⟨[.bool g,.int .i64 ki,.int .i64 p,.int .i64 s,.int .u64 ma,.int .u64 lo,.int .u64 hi]⟩,.pointer (some ⟨lp,0,none⟩)])) m (Y.retF Tryz.prog Tryz.f23 q)=
 (cf 21 [.pointer (some ⟨mp,0,none⟩)] (Mem.push (Mem.push m (.cells true [.bool g,.int .i64 ki,.int .i64 p,.int .i64 s,.int .u64 ma,.int .u64 lo,.int .u64 hi])) (.cells true [.int .i64 0,.slice none 0 0])) (λD A=>Y.cellsOf (Mem.get A (Mem.size m)) (λ_ O=>Option.elim (Y.nthL O 1) none (λQ=>Y.asInt Q (λR B=>cond (Y.kEq .i64 R) (cond (Y.eqF B 1) (cf 19 [.pointer (some ⟨mp,0,none⟩),.int .i64 11,.int .u8 2,.int .u8 8] A (λE F=>L (λt m q=>Y.codeF (Y.loopC Ek 0) Tryz.prog kp 1 (Y.cfT Tryz.prog cf) L 133 k t m q) (Y.loopC Ek 0) k (AB 133 (up (up Go.DI.x0 [(16,.bool true),(12,.int .i64 B),(18,.pointer (some ⟨mp,0,none⟩)),(10,D),(1,.agg ⟨[.bool g,.int .i64 ki,.int .i64 p,.int .i64 s,.int .u64 ma,.int .u64 lo,.int .u64 hi]⟩),(17,.bool true),(9,.pointer (some ⟨mp,0,none⟩)),(19,E),(11,.pointer (some ⟨Mem.size m,1,none⟩))]) [(0,.pointer (some ⟨mp,0,none⟩)),(2,.pointer (some ⟨lp,0,none⟩)),(4,.pointer (some ⟨Mem.size m,0,none⟩)),(6,.pointer (some ⟨Nat.succ (Mem.size m),0,none⟩)),(7,.int .u64 0)])) F (Y.kont Tryz.prog kp 1 (Y.cfT Tryz.prog cf) L 133 k Ek 0 (Y.retF Tryz.prog Tryz.f23 q)))) (cond (Y.eqF B 2) (cf 20 [.pointer (some ⟨mp,0,none⟩),.int .i64 4,.int .u8 2,.int .u8 6,.int .i64 4] A (λE F=>L (λt m q=>Y.codeF (Y.loopC Ek 0) Tryz.prog kp 1 (Y.cfT Tryz.prog cf) L 133 k t m q) (Y.loopC Ek 0) k (AB 133 (up (up Go.DI.x0 [(16,.bool false),(20,.bool true),(12,.int .i64 B),(10,D),(22,.pointer (some ⟨mp,0,none⟩)),(1,.agg ⟨[.bool g,.int .i64 ki,.int .i64 p,.int .i64 s,.int .u64 ma,.int .u64 lo,.int .u64 hi]⟩),(17,.bool false),(9,.pointer (some ⟨mp,0,none⟩)),(21,.bool true),(11,.pointer (some ⟨Mem.size m,1,none⟩)),(23,E)]) [(0,.pointer (some ⟨mp,0,none⟩)),(2,.pointer (some ⟨lp,0,none⟩)),(4,.pointer (some ⟨Mem.size m,0,none⟩)),(6,.pointer (some ⟨Nat.succ (Mem.size m),0,none⟩)),(7,.int .u64 0)])) F (Y.kont Tryz.prog kp 1 (Y.cfT Tryz.prog cf) L 133 k Ek 0 (Y.retF Tryz.prog Tryz.f23 q)))) (cond (Y.eqF B 3) (Y.cellsOf (Mem.get A (Mem.size m)) (λ_ C=>Option.elim (Y.nthL C 2) none (λS=>Y.asInt S (λT G=>cond (Y.kEq .i64 T) (Y.cellsOf (Mem.get A (Mem.size m)) (λ_ U=>Option.elim (Y.nthL U 3) none (λV=>Y.asInt V (λW H=>cond (Y.kEq .i64 W) (cf 38 [.pointer (some ⟨mp,0,none⟩),.int .i64 (IntKind.wrap .i64 (Int.add G H)),.pointer (some ⟨Nat.succ (Mem.size m),0,none⟩)] A (λX I=>Y.cellsOf (Mem.get I (Mem.size m)) (λ_ Z=>Option.elim (Y.nthL Z 3) none (λAa=>Y.asInt Aa (λAb J=>cond (Y.kEq .i64 Ab) (Y.cellsOf (Mem.get I (Mem.size m)) (λ_ Ac=>Option.elim (Y.nthL Ac 2) none (λAd=>Y.asInt Ad (λAe N=>cond (Y.kEq .i64 Ae) (cf 20 [.pointer (some ⟨mp,0,none⟩),.int .i64 J,.int .u8 2,.int .u8 7,.int .i64 N] I (λAf Ag=>L (λt m q=>Y.codeF (Y.loopC Ek 0) Tryz.prog kp 1 (Y.cfT Tryz.prog cf) L 133 k t m q) (Y.loopC Ek 0) k (AB 133 (up (up Go.DI.x0 [(32,X),(16,.bool false),(24,.bool true),(36,.pointer (some ⟨Mem.size m,2,none⟩)),(20,.bool false),(12,.int .i64 B),(28,.int .i64 G),(34,.pointer (some ⟨Mem.size m,3,none⟩)),(10,D),(26,.pointer (some ⟨mp,0,none⟩)),(38,Af),(30,.int .i64 H),(1,.agg ⟨[.bool g,.int .i64 ki,.int .i64 p,.int .i64 s,.int .u64 ma,.int .u64 lo,.int .u64 hi]⟩),(33,.pointer (some ⟨mp,0,none⟩)),(17,.bool false),(9,.pointer (some ⟨mp,0,none⟩)),(25,.bool true),(37,.int .i64 N),(21,.bool false),(29,.pointer (some ⟨Mem.size m,3,none⟩)),(35,.int .i64 J),(11,.pointer (some ⟨Mem.size m,1,none⟩)),(27,.pointer (some ⟨Mem.size m,2,none⟩)),(31,.int .i64 (IntKind.wrap .i64 (Int.add G H)))]) [(0,.pointer (some ⟨mp,0,none⟩)),(2,.pointer (some ⟨lp,0,none⟩)),(4,.pointer (some ⟨Mem.size m,0,none⟩)),(6,.pointer (some ⟨Nat.succ (Mem.size m),0,none⟩)),(7,.int .u64 0)])) Ag (Y.kont Tryz.prog kp 1 (Y.cfT Tryz.prog cf) L 133 k Ek 0 (Y.retF Tryz.prog Tryz.f23 q)))) none) none))) none) none)))) none) none))) none) none))) (Y.cellsOf (Mem.get A (Mem.size m)) (λ_ C=>cond (Nat.ble 7 (Y.lenLF C)) (cf 39 [.pointer (some ⟨mp,0,none⟩),.agg ⟨Y.subL C 0 7⟩,.pointer (some ⟨Nat.succ (Mem.size m),0,none⟩)] A (λAh Ai=>L (λt m q=>Y.codeF (Y.loopC Ek 0) Tryz.prog kp 1 (Y.cfT Tryz.prog cf) L 133 k t m q) (Y.loopC Ek 0) k (AB 133 (up (up Go.DI.x0 [(16,.bool false),(24,.bool false),(20,.bool false),(12,.int .i64 B),(10,D),(14,.agg ⟨Y.subL C 0 7⟩),(1,.agg ⟨[.bool g,.int .i64 ki,.int .i64 p,.int .i64 s,.int .u64 ma,.int .u64 lo,.int .u64 hi]⟩),(17,.bool false),(9,.pointer (some ⟨mp,0,none⟩)),(25,.bool false),(21,.bool false),(13,.pointer (some ⟨mp,0,none⟩)),(11,.pointer (some ⟨Mem.size m,1,none⟩)),(15,Ah)]) [(0,.pointer (some ⟨mp,0,none⟩)),(2,.pointer (some ⟨lp,0,none⟩)),(4,.pointer (some ⟨Mem.size m,0,none⟩)),(6,.pointer (some ⟨Nat.succ (Mem.size m),0,none⟩)),(7,.int .u64 0)])) Ai (Y.kont Tryz.prog kp 1 (Y.cfT Tryz.prog cf) L 133 k Ek 0 (Y.retF Tryz.prog Tryz.f23 q)))) none))))) none) none)))):=by kernel_rfl
theorem gY(mp lp tb ol:Nat)(tp:Int)(q:AF->Mem->Option α):Y.opsF (Pt) Tryz.prog kp 1 (Y.cfT Tryz.prog cf) 133 Pt (AB 133 (up x [(0,.pointer (some ⟨mp,0,none⟩)),(2,.pointer (some ⟨lp,0,none⟩)),(4,.pointer (some ⟨tb,0,none⟩)),(6,.pointer (some ⟨ol,0,none⟩)),(7,.int .u64 tp)])) m q=
 (Y.cellsOf (Mem.get m tb) (λ_ C=>Option.elim (Y.nthL C 1) none (λD=>Y.asInt D (λE A=>cond (Y.kEq .i64 E) (cond (Y.eqF A 3) (q (AB 133 (up (up x [(40,.int .i64 A),(44,.tuple ⟨[]⟩),(42,.bool true),(41,.bool true),(45,.tuple ⟨[]⟩),(43,.tuple ⟨[]⟩),(39,.pointer (some ⟨tb,1,none⟩))]) [(0,.pointer (some ⟨mp,0,none⟩)),(2,.pointer (some ⟨lp,0,none⟩)),(4,.pointer (some ⟨tb,0,none⟩)),(6,.pointer (some ⟨ol,0,none⟩)),(7,.int .u64 tp),(46,.bool true)])) m) (Y.cellsOf (Mem.get m tb) (λ_ F=>Option.elim (Y.nthL F 1) none (λG=>Y.asInt G (λH B=>cond (Y.kEq .i64 H) (cond (Y.eqF B 4) (q (AB 133 (up (up x [(40,.int .i64 A),(44,.int .i64 B),(42,.bool false),(41,.bool false),(45,.bool true),(43,.pointer (some ⟨tb,1,none⟩)),(39,.pointer (some ⟨tb,1,none⟩))]) [(0,.pointer (some ⟨mp,0,none⟩)),(2,.pointer (some ⟨lp,0,none⟩)),(4,.pointer (some ⟨tb,0,none⟩)),(6,.pointer (some ⟨ol,0,none⟩)),(7,.int .u64 tp),(46,.bool true)])) m) (q (AB 133 (up (up x [(40,.int .i64 A),(44,.int .i64 B),(42,.bool false),(41,.bool false),(45,.bool false),(43,.pointer (some ⟨tb,1,none⟩)),(39,.pointer (some ⟨tb,1,none⟩))]) [(0,.pointer (some ⟨mp,0,none⟩)),(2,.pointer (some ⟨lp,0,none⟩)),(4,.pointer (some ⟨tb,0,none⟩)),(6,.pointer (some ⟨ol,0,none⟩)),(7,.int .u64 tp),(46,.bool false)])) m)) none) none)))) none) none))):=by kernel_rfl
theorem T0(mp lp tb ol:Nat)(tp:Int)(bb:Bool)(q:Value->Mem->Option α):Y.kont Tryz.prog kp 1 (Y.cfT Tryz.prog cf) L 133 k Ek 0 (Y.retF Tryz.prog Tryz.f23 q) .normal (AB 133 (up x [(0,.pointer (some ⟨mp,0,none⟩)),(2,.pointer (some ⟨lp,0,none⟩)),(4,.pointer (some ⟨tb,0,none⟩)),(6,.pointer (some ⟨ol,0,none⟩)),(7,.int .u64 tp),(46,.bool bb)])) m=
 (cond bb (Y.cellsOf (Mem.get m tb) (λ_ Ag=>Option.elim (Y.nthL Ag 3) none (λAh=>Y.asInt Ah (λAi C=>cond (Y.kEq .i64 Ai) (cf 40 [.int .i64 C] m (λAj D=>Y.asInt Aj (λAk A=>cond (Y.kEq .u64 Ak) (Y.cellsOf (Mem.get D tb) (λ_ Al=>Option.elim (Y.nthL Al 3) none (λAm=>Y.asInt Am (λAn E=>cond (Y.kEq .i64 An) (cond (Y.ltF 1 E) (Y.cellsOf (Mem.get D tb) (λ_ O=>Option.elim (Y.nthL O 3) none (λQ=>Y.asInt Q (λR B=>cond (Y.kEq .i64 R) (cf 35 [.pointer (some ⟨mp,0,none⟩),.agg ⟨[.int .i64 2,.int .i64 0,.int .i64 B,.bool false,.bool false]⟩,.agg ⟨[.int .u8 0,.int .u8 2,.int .u8 0,.int .i16 0,.int .i32 0]⟩] D (λS H=>Y.cellsOf (Mem.get H tb) (λ_ Ao=>Option.elim (Y.nthL Ao 4) none (λAp=>Y.asInt Ap (λAq I=>cond (Y.kEq .u64 Aq) (cond (Y.eqF I A) (L (λt m q=>Y.codeF (Y.loopC Ek 1) Tryz.prog kp 1 (Y.cfT Tryz.prog cf) L 133 k t m q) (Y.loopC Ek 1) k (AB 133 (up (up x [(48,.int .i64 C),(56,.agg ⟨[.int .i64 2,.int .i64 0,.int .i64 B,.bool false,.bool false]⟩),(68,.int .u64 A),(52,.bool true),(66,.pointer (some ⟨tb,4,none⟩)),(50,.pointer (some ⟨tb,3,none⟩)),(58,S),(54,.pointer (some ⟨tb,3,none⟩)),(46,.bool bb),(65,.bool true),(49,.int .u64 A),(57,.agg ⟨[.int .u8 0,.int .u8 2,.int .u8 0,.int .i16 0,.int .i32 0]⟩),(69,.bool true),(53,.pointer (some ⟨mp,0,none⟩)),(67,.int .u64 I),(51,.int .i64 E),(55,.int .i64 B),(47,.pointer (some ⟨tb,3,none⟩))]) [(0,.pointer (some ⟨mp,0,none⟩)),(2,.pointer (some ⟨lp,0,none⟩)),(4,.pointer (some ⟨tb,0,none⟩)),(6,.pointer (some ⟨ol,0,none⟩)),(7,.int .u64 A)])) H (Y.kont Tryz.prog kp 1 (Y.cfT Tryz.prog cf) L 133 k Ek 1 (Y.retF Tryz.prog Tryz.f23 q))) (Y.cellsOf (Mem.get H tb) (λ_ Ar=>Option.elim (Y.nthL Ar 4) none (λAs=>Y.asInt As (λAt T=>cond (Y.kEq .u64 At) (cf 41 [.int .u64 T] H (λAu J=>Y.asBo Au (λAv=>cond Av (Y.cellsOf (Mem.get J tb) (λ_ U=>Option.elim (Y.nthL U 4) none (λV=>Y.asInt V (λW F=>cond (Y.kEq .u64 W) (cf 36 [.pointer (some ⟨mp,0,none⟩),.int .i64 5,.int .u8 2,.int .i32 (IntKind.wrap .i32 F)] J (λX Z=>L (λt m q=>Y.codeF (Y.loopC Ek 1) Tryz.prog kp 1 (Y.cfT Tryz.prog cf) L 133 k t m q) (Y.loopC Ek 1) k (AB 133 (up (up x [(48,.int .i64 C),(72,.int .u64 T),(56,.agg ⟨[.int .i64 2,.int .i64 0,.int .i64 B,.bool false,.bool false]⟩),(68,.int .u64 A),(52,.bool true),(76,.int .u64 F),(66,.pointer (some ⟨tb,4,none⟩)),(50,.pointer (some ⟨tb,3,none⟩)),(74,.pointer (some ⟨mp,0,none⟩)),(58,S),(70,.bool true),(54,.pointer (some ⟨tb,3,none⟩)),(78,X),(46,.bool bb),(65,.bool false),(49,.int .u64 A),(73,.bool true),(57,.agg ⟨[.int .u8 0,.int .u8 2,.int .u8 0,.int .i16 0,.int .i32 0]⟩),(69,.bool false),(53,.pointer (some ⟨mp,0,none⟩)),(77,.int .i32 (IntKind.wrap .i32 F)),(67,.int .u64 I),(51,.int .i64 E),(75,.pointer (some ⟨tb,4,none⟩)),(71,.pointer (some ⟨tb,4,none⟩)),(55,.int .i64 B),(47,.pointer (some ⟨tb,3,none⟩))]) [(0,.pointer (some ⟨mp,0,none⟩)),(2,.pointer (some ⟨lp,0,none⟩)),(4,.pointer (some ⟨tb,0,none⟩)),(6,.pointer (some ⟨ol,0,none⟩)),(7,.int .u64 A)])) Z (Y.kont Tryz.prog kp 1 (Y.cfT Tryz.prog cf) L 133 k Ek 1 (Y.retF Tryz.prog Tryz.f23 q)))) none) none))) (Y.cellsOf (Mem.get J tb) (λ_ U=>Option.elim (Y.nthL U 4) none (λV=>Y.asInt V (λW F=>cond (Y.kEq .u64 W) (cf 42 [.pointer (some ⟨mp,0,none⟩),.int .u8 3,.int .u64 F] J (λX Z=>cf 19 [.pointer (some ⟨mp,0,none⟩),.int .i64 5,.int .u8 2,.int .u8 3] Z (λAw Ax=>L (λt m q=>Y.codeF (Y.loopC Ek 1) Tryz.prog kp 1 (Y.cfT Tryz.prog cf) L 133 k t m q) (Y.loopC Ek 1) k (AB 133 (up (up x [(64,Aw),(48,.int .i64 C),(72,.int .u64 T),(56,.agg ⟨[.int .i64 2,.int .i64 0,.int .i64 B,.bool false,.bool false]⟩),(68,.int .u64 A),(52,.bool true),(60,.pointer (some ⟨tb,4,none⟩)),(66,.pointer (some ⟨tb,4,none⟩)),(50,.pointer (some ⟨tb,3,none⟩)),(58,S),(70,.bool false),(54,.pointer (some ⟨tb,3,none⟩)),(46,.bool bb),(62,X),(65,.bool false),(49,.int .u64 A),(73,.bool false),(57,.agg ⟨[.int .u8 0,.int .u8 2,.int .u8 0,.int .i16 0,.int .i32 0]⟩),(69,.bool false),(53,.pointer (some ⟨mp,0,none⟩)),(61,.int .u64 F),(67,.int .u64 I),(51,.int .i64 E),(59,.pointer (some ⟨mp,0,none⟩)),(71,.pointer (some ⟨tb,4,none⟩)),(55,.int .i64 B),(47,.pointer (some ⟨tb,3,none⟩)),(63,.pointer (some ⟨mp,0,none⟩))]) [(0,.pointer (some ⟨mp,0,none⟩)),(2,.pointer (some ⟨lp,0,none⟩)),(4,.pointer (some ⟨tb,0,none⟩)),(6,.pointer (some ⟨ol,0,none⟩)),(7,.int .u64 A)])) Ax (Y.kont Tryz.prog kp 1 (Y.cfT Tryz.prog cf) L 133 k Ek 1 (Y.retF Tryz.prog Tryz.f23 q))))) none) none)))) none)) none) none)))) none) none)))) none) none))) (Y.cellsOf (Mem.get D tb) (λ_ O=>Option.elim (Y.nthL O 4) none (λQ=>Y.asInt Q (λR B=>cond (Y.kEq .u64 R) (cond (Y.eqF B A) (L (λt m q=>Y.codeF (Y.loopC Ek 1) Tryz.prog kp 1 (Y.cfT Tryz.prog cf) L 133 k t m q) (Y.loopC Ek 1) k (AB 133 (up (up x [(48,.int .i64 C),(68,.int .u64 A),(52,.bool false),(66,.pointer (some ⟨tb,4,none⟩)),(50,.pointer (some ⟨tb,3,none⟩)),(46,.bool bb),(65,.bool true),(49,.int .u64 A),(69,.bool true),(67,.int .u64 B),(51,.int .i64 E),(47,.pointer (some ⟨tb,3,none⟩))]) [(0,.pointer (some ⟨mp,0,none⟩)),(2,.pointer (some ⟨lp,0,none⟩)),(4,.pointer (some ⟨tb,0,none⟩)),(6,.pointer (some ⟨ol,0,none⟩)),(7,.int .u64 A)])) D (Y.kont Tryz.prog kp 1 (Y.cfT Tryz.prog cf) L 133 k Ek 1 (Y.retF Tryz.prog Tryz.f23 q))) (Y.cellsOf (Mem.get D tb) (λ_ Ay=>Option.elim (Y.nthL Ay 4) none (λAz=>Y.asInt Az (λA0 Aa=>cond (Y.kEq .u64 A0) (cf 41 [.int .u64 Aa] D (λA1 N=>Y.asBo A1 (λA2=>cond A2 (Y.cellsOf (Mem.get N tb) (λ_ Ab=>Option.elim (Y.nthL Ab 4) none (λAc=>Y.asInt Ac (λAd G=>cond (Y.kEq .u64 Ad) (cf 36 [.pointer (some ⟨mp,0,none⟩),.int .i64 5,.int .u8 2,.int .i32 (IntKind.wrap .i32 G)] N (λAe Af=>L (λt m q=>Y.codeF (Y.loopC Ek 1) Tryz.prog kp 1 (Y.cfT Tryz.prog cf) L 133 k t m q) (Y.loopC Ek 1) k (AB 133 (up (up x [(48,.int .i64 C),(72,.int .u64 Aa),(68,.int .u64 A),(52,.bool false),(76,.int .u64 G),(66,.pointer (some ⟨tb,4,none⟩)),(50,.pointer (some ⟨tb,3,none⟩)),(74,.pointer (some ⟨mp,0,none⟩)),(70,.bool true),(78,Ae),(46,.bool bb),(65,.bool false),(49,.int .u64 A),(73,.bool true),(69,.bool false),(77,.int .i32 (IntKind.wrap .i32 G)),(67,.int .u64 B),(51,.int .i64 E),(75,.pointer (some ⟨tb,4,none⟩)),(71,.pointer (some ⟨tb,4,none⟩)),(47,.pointer (some ⟨tb,3,none⟩))]) [(0,.pointer (some ⟨mp,0,none⟩)),(2,.pointer (some ⟨lp,0,none⟩)),(4,.pointer (some ⟨tb,0,none⟩)),(6,.pointer (some ⟨ol,0,none⟩)),(7,.int .u64 A)])) Af (Y.kont Tryz.prog kp 1 (Y.cfT Tryz.prog cf) L 133 k Ek 1 (Y.retF Tryz.prog Tryz.f23 q)))) none) none))) (Y.cellsOf (Mem.get N tb) (λ_ Ab=>Option.elim (Y.nthL Ab 4) none (λAc=>Y.asInt Ac (λAd G=>cond (Y.kEq .u64 Ad) (cf 42 [.pointer (some ⟨mp,0,none⟩),.int .u8 3,.int .u64 G] N (λAe Af=>cf 19 [.pointer (some ⟨mp,0,none⟩),.int .i64 5,.int .u8 2,.int .u8 3] Af (λA3 A4=>L (λt m q=>Y.codeF (Y.loopC Ek 1) Tryz.prog kp 1 (Y.cfT Tryz.prog cf) L 133 k t m q) (Y.loopC Ek 1) k (AB 133 (up (up x [(64,A3),(48,.int .i64 C),(72,.int .u64 Aa),(68,.int .u64 A),(52,.bool false),(60,.pointer (some ⟨tb,4,none⟩)),(66,.pointer (some ⟨tb,4,none⟩)),(50,.pointer (some ⟨tb,3,none⟩)),(70,.bool false),(46,.bool bb),(62,Ae),(65,.bool false),(49,.int .u64 A),(73,.bool false),(69,.bool false),(61,.int .u64 G),(67,.int .u64 B),(51,.int .i64 E),(59,.pointer (some ⟨mp,0,none⟩)),(71,.pointer (some ⟨tb,4,none⟩)),(47,.pointer (some ⟨tb,3,none⟩)),(63,.pointer (some ⟨mp,0,none⟩))]) [(0,.pointer (some ⟨mp,0,none⟩)),(2,.pointer (some ⟨lp,0,none⟩)),(4,.pointer (some ⟨tb,0,none⟩)),(6,.pointer (some ⟨ol,0,none⟩)),(7,.int .u64 A)])) A4 (Y.kont Tryz.prog kp 1 (Y.cfT Tryz.prog cf) L 133 k Ek 1 (Y.retF Tryz.prog Tryz.f23 q))))) none) none)))) none)) none) none)))) none) none)))) none) none))) none) none)) none) none))) (L (λt m q=>Y.codeF (Y.loopC Ek 1) Tryz.prog kp 1 (Y.cfT Tryz.prog cf) L 133 k t m q) (Y.loopC Ek 1) k (AB 133 (up (up x [(46,.bool bb)]) [(0,.pointer (some ⟨mp,0,none⟩)),(2,.pointer (some ⟨lp,0,none⟩)),(4,.pointer (some ⟨tb,0,none⟩)),(6,.pointer (some ⟨ol,0,none⟩)),(7,.int .u64 tp)])) m (Y.kont Tryz.prog kp 1 (Y.cfT Tryz.prog cf) L 133 k Ek 1 (Y.retF Tryz.prog Tryz.f23 q)))):=by kernel_rfl
theorem gW(mp lp tb ol:Nat)(tp:Int)(q:AF->Mem->Option α):Y.opsF (Pu) Tryz.prog kp 1 (Y.cfT Tryz.prog cf) 133 Pu (AB 133 (up x [(0,.pointer (some ⟨mp,0,none⟩)),(2,.pointer (some ⟨lp,0,none⟩)),(4,.pointer (some ⟨tb,0,none⟩)),(6,.pointer (some ⟨ol,0,none⟩)),(7,.int .u64 tp)])) m q=
 (Y.cellsOf (Mem.get m tb) (λ_ B=>Option.elim (Y.nthL B 5) none (λC=>Y.asInt C (λD A=>cond (Y.kEq .u64 D) (cond (cond (Y.eqF A 0) false true) (q (AB 133 (up (up x [(80,.int .u64 A),(79,.pointer (some ⟨tb,5,none⟩))]) [(0,.pointer (some ⟨mp,0,none⟩)),(2,.pointer (some ⟨lp,0,none⟩)),(4,.pointer (some ⟨tb,0,none⟩)),(6,.pointer (some ⟨ol,0,none⟩)),(7,.int .u64 tp),(81,.bool true)])) m) (q (AB 133 (up (up x [(80,.int .u64 A),(79,.pointer (some ⟨tb,5,none⟩))]) [(0,.pointer (some ⟨mp,0,none⟩)),(2,.pointer (some ⟨lp,0,none⟩)),(4,.pointer (some ⟨tb,0,none⟩)),(6,.pointer (some ⟨ol,0,none⟩)),(7,.int .u64 tp),(81,.bool false)])) m)) none) none))):=by kernel_rfl
theorem Zm(mp lp tb ol:Nat)(tp:Int)(bb:Bool)(q:Value->Mem->Option α):Y.kont Tryz.prog kp 1 (Y.cfT Tryz.prog cf) L 133 k Ek 1 (Y.retF Tryz.prog Tryz.f23 q) .normal (AB 133 (up x [(0,.pointer (some ⟨mp,0,none⟩)),(2,.pointer (some ⟨lp,0,none⟩)),(4,.pointer (some ⟨tb,0,none⟩)),(6,.pointer (some ⟨ol,0,none⟩)),(7,.int .u64 tp),(81,.bool bb)])) m=
 (cond bb (Y.cellsOf (Mem.get m tb) (λ_ B=>Option.elim (Y.nthL B 5) none (λC=>Y.asInt C (λD A=>cond (Y.kEq .u64 D) (cf 43 [.pointer (some ⟨mp,0,none⟩),.int .i64 10,.int .u64 A,.pointer (some ⟨ol,0,none⟩)] m (λE F=>L (λt m q=>Y.codeF (Y.loopC Ek 2) Tryz.prog kp 1 (Y.cfT Tryz.prog cf) L 133 k t m q) (Y.loopC Ek 2) k (AB 133 (up (up x [(84,.int .u64 A),(82,.pointer (some ⟨mp,0,none⟩)),(81,.bool bb),(85,E),(83,.pointer (some ⟨tb,5,none⟩))]) [(0,.pointer (some ⟨mp,0,none⟩)),(2,.pointer (some ⟨lp,0,none⟩)),(4,.pointer (some ⟨tb,0,none⟩)),(6,.pointer (some ⟨ol,0,none⟩)),(7,.int .u64 tp)])) F (Y.kont Tryz.prog kp 1 (Y.cfT Tryz.prog cf) L 133 k Ek 2 (Y.retF Tryz.prog Tryz.f23 q)))) none) none))) (L (λt m q=>Y.codeF (Y.loopC Ek 2) Tryz.prog kp 1 (Y.cfT Tryz.prog cf) L 133 k t m q) (Y.loopC Ek 2) k (AB 133 (up (up x [(81,.bool bb)]) [(0,.pointer (some ⟨mp,0,none⟩)),(2,.pointer (some ⟨lp,0,none⟩)),(4,.pointer (some ⟨tb,0,none⟩)),(6,.pointer (some ⟨ol,0,none⟩)),(7,.int .u64 tp)])) m (Y.kont Tryz.prog kp 1 (Y.cfT Tryz.prog cf) L 133 k Ek 2 (Y.retF Tryz.prog Tryz.f23 q)))):=by kernel_rfl
theorem gU(mp lp tb ol:Nat)(tp:Int)(q:AF->Mem->Option α):Y.opsF (Pv) Tryz.prog kp 1 (Y.cfT Tryz.prog cf) 133 Pv (AB 133 (up x [(0,.pointer (some ⟨mp,0,none⟩)),(2,.pointer (some ⟨lp,0,none⟩)),(4,.pointer (some ⟨tb,0,none⟩)),(6,.pointer (some ⟨ol,0,none⟩)),(7,.int .u64 tp)])) m q=
 (Y.cellsOf (Mem.get m tb) (λ_ D=>Option.elim (Y.nthL D 1) none (λE=>Y.asInt E (λF A=>cond (Y.kEq .i64 F) (cond (Y.eqF A 1) (q (AB 133 (up (up x [(96,.tuple ⟨[]⟩),(88,.bool true),(92,.tuple ⟨[]⟩),(98,.tuple ⟨[]⟩),(90,.tuple ⟨[]⟩),(86,.pointer (some ⟨tb,1,none⟩)),(94,.bool true),(97,.tuple ⟨[]⟩),(89,.bool true),(93,.bool true),(91,.tuple ⟨[]⟩),(87,.int .i64 A),(95,.tuple ⟨[]⟩)]) [(0,.pointer (some ⟨mp,0,none⟩)),(2,.pointer (some ⟨lp,0,none⟩)),(4,.pointer (some ⟨tb,0,none⟩)),(6,.pointer (some ⟨ol,0,none⟩)),(7,.int .u64 tp),(99,.bool true)])) m) (Y.cellsOf (Mem.get m tb) (λ_ G=>Option.elim (Y.nthL G 1) none (λH=>Y.asInt H (λI B=>cond (Y.kEq .i64 I) (cond (Y.eqF B 2) (q (AB 133 (up (up x [(96,.tuple ⟨[]⟩),(88,.bool false),(92,.bool true),(98,.tuple ⟨[]⟩),(90,.pointer (some ⟨tb,1,none⟩)),(86,.pointer (some ⟨tb,1,none⟩)),(94,.bool true),(97,.tuple ⟨[]⟩),(89,.bool false),(93,.bool true),(91,.int .i64 B),(87,.int .i64 A),(95,.tuple ⟨[]⟩)]) [(0,.pointer (some ⟨mp,0,none⟩)),(2,.pointer (some ⟨lp,0,none⟩)),(4,.pointer (some ⟨tb,0,none⟩)),(6,.pointer (some ⟨ol,0,none⟩)),(7,.int .u64 tp),(99,.bool true)])) m) (Y.cellsOf (Mem.get m tb) (λ_ J=>Option.elim (Y.nthL J 6) none (λN=>Y.asInt N (λO C=>cond (Y.kEq .u64 O) (cond (cond (Y.eqF C tp) false true) (q (AB 133 (up (up x [(96,.int .u64 C),(88,.bool false),(92,.bool false),(98,.bool true),(90,.pointer (some ⟨tb,1,none⟩)),(86,.pointer (some ⟨tb,1,none⟩)),(94,.bool false),(97,.int .u64 tp),(89,.bool false),(93,.bool false),(91,.int .i64 B),(87,.int .i64 A),(95,.pointer (some ⟨tb,6,none⟩))]) [(0,.pointer (some ⟨mp,0,none⟩)),(2,.pointer (some ⟨lp,0,none⟩)),(4,.pointer (some ⟨tb,0,none⟩)),(6,.pointer (some ⟨ol,0,none⟩)),(7,.int .u64 tp),(99,.bool true)])) m) (q (AB 133 (up (up x [(96,.int .u64 C),(88,.bool false),(92,.bool false),(98,.bool false),(90,.pointer (some ⟨tb,1,none⟩)),(86,.pointer (some ⟨tb,1,none⟩)),(94,.bool false),(97,.int .u64 tp),(89,.bool false),(93,.bool false),(91,.int .i64 B),(87,.int .i64 A),(95,.pointer (some ⟨tb,6,none⟩))]) [(0,.pointer (some ⟨mp,0,none⟩)),(2,.pointer (some ⟨lp,0,none⟩)),(4,.pointer (some ⟨tb,0,none⟩)),(6,.pointer (some ⟨ol,0,none⟩)),(7,.int .u64 tp),(99,.bool false)])) m)) none) none)))) none) none)))) none) none))):=by kernel_rfl
theorem Zl(mp lp tb ol:Nat)(tp:Int)(bb:Bool)(q:Value->Mem->Option α):Y.kont Tryz.prog kp 1 (Y.cfT Tryz.prog cf) L 133 k Ek 2 (Y.retF Tryz.prog Tryz.f23 q) .normal (AB 133 (up x [(0,.pointer (some ⟨mp,0,none⟩)),(2,.pointer (some ⟨lp,0,none⟩)),(4,.pointer (some ⟨tb,0,none⟩)),(6,.pointer (some ⟨ol,0,none⟩)),(7,.int .u64 tp),(99,.bool bb)])) m=
 (cond bb (Y.cellsOf (Mem.get m tb) (λ_ B=>Option.elim (Y.nthL B 6) none (λC=>Y.asInt C (λD A=>cond (Y.kEq .u64 D) (cf 43 [.pointer (some ⟨mp,0,none⟩),.int .i64 2,.int .u64 A,.pointer (some ⟨ol,0,none⟩)] m (λE F=>L (λt m q=>Y.codeF (Y.loopC Ek 3) Tryz.prog kp 1 (Y.cfT Tryz.prog cf) L 133 k t m q) (Y.loopC Ek 3) k (AB 133 (up (up x [(100,.pointer (some ⟨mp,0,none⟩)),(102,.int .u64 A),(101,.pointer (some ⟨tb,6,none⟩)),(99,.bool bb),(103,E)]) [(0,.pointer (some ⟨mp,0,none⟩)),(2,.pointer (some ⟨lp,0,none⟩)),(4,.pointer (some ⟨tb,0,none⟩)),(6,.pointer (some ⟨ol,0,none⟩)),(7,.int .u64 tp)])) F (Y.kont Tryz.prog kp 1 (Y.cfT Tryz.prog cf) L 133 k Ek 3 (Y.retF Tryz.prog Tryz.f23 q)))) none) none))) (L (λt m q=>Y.codeF (Y.loopC Ek 3) Tryz.prog kp 1 (Y.cfT Tryz.prog cf) L 133 k t m q) (Y.loopC Ek 3) k (AB 133 (up (up x [(99,.bool bb)]) [(0,.pointer (some ⟨mp,0,none⟩)),(2,.pointer (some ⟨lp,0,none⟩)),(4,.pointer (some ⟨tb,0,none⟩)),(6,.pointer (some ⟨ol,0,none⟩)),(7,.int .u64 tp)])) m (Y.kont Tryz.prog kp 1 (Y.cfT Tryz.prog cf) L 133 k Ek 3 (Y.retF Tryz.prog Tryz.f23 q)))):=by kernel_rfl
theorem gS(mp lp tb ol:Nat)(tp:Int)(q:AF->Mem->Option α):Y.opsF (Pw) Tryz.prog kp 1 (Y.cfT Tryz.prog cf) 133 Pw (AB 133 (up x [(0,.pointer (some ⟨mp,0,none⟩)),(2,.pointer (some ⟨lp,0,none⟩)),(4,.pointer (some ⟨tb,0,none⟩)),(6,.pointer (some ⟨ol,0,none⟩)),(7,.int .u64 tp)])) m q=
 (Y.cellsOf (Mem.get m tb) (λ_ A=>Option.elim (Y.nthL A 0) none (λB=>Y.asBo B (λC=>q (AB 133 (up (up x [(104,.pointer (some ⟨tb,0,none⟩))]) [(0,.pointer (some ⟨mp,0,none⟩)),(2,.pointer (some ⟨lp,0,none⟩)),(4,.pointer (some ⟨tb,0,none⟩)),(6,.pointer (some ⟨ol,0,none⟩)),(7,.int .u64 tp),(105,.bool C)])) m) none))):=by kernel_rfl
theorem Zk(mp lp tb ol:Nat)(tp:Int)(bb:Bool)(q:Value->Mem->Option α):Y.kont Tryz.prog kp 1 (Y.cfT Tryz.prog cf) L 133 k Ek 3 (Y.retF Tryz.prog Tryz.f23 q) .normal (AB 133 (up x [(0,.pointer (some ⟨mp,0,none⟩)),(2,.pointer (some ⟨lp,0,none⟩)),(4,.pointer (some ⟨tb,0,none⟩)),(6,.pointer (some ⟨ol,0,none⟩)),(7,.int .u64 tp),(105,.bool bb)])) m=
 (cond bb (cf 21 [.pointer (some ⟨mp,0,none⟩)] m (λF A=>cf 44 [.pointer (some ⟨mp,0,none⟩),.pointer (some ⟨lp,0,none⟩)] A (λG B=>cf 25 [.pointer (some ⟨mp,0,none⟩),.slice (some ⟨Mem.size B,0,none⟩) 1 1] (Mem.push B (.cells true [.pointer (some ⟨ol,0,none⟩)])) (λH C=>cf 26 [.pointer (some ⟨mp,0,none⟩),.slice (some ⟨Mem.size C,0,none⟩) 1 1] (Mem.push C (.cells true [.pointer (some ⟨ol,0,none⟩)])) (λI D=>q (.tuple ⟨[]⟩) D))))) (cf 44 [.pointer (some ⟨mp,0,none⟩),.pointer (some ⟨Mem.size m,0,none⟩)] (Mem.push m (.cells true [.int .i64 0,.slice none 0 0])) (λF A=>cf 25 [.pointer (some ⟨mp,0,none⟩),.slice (some ⟨Mem.size A,0,none⟩) 1 1] (Mem.push A (.cells true [.pointer (some ⟨ol,0,none⟩)])) (λG B=>cf 21 [.pointer (some ⟨mp,0,none⟩)] B (λH C=>cf 44 [.pointer (some ⟨mp,0,none⟩),.pointer (some ⟨lp,0,none⟩)] C (λI D=>cf 25 [.pointer (some ⟨mp,0,none⟩),.slice (some ⟨Mem.size D,0,none⟩) 1 1] (Mem.push D (.cells true [.pointer (some ⟨Mem.size m,0,none⟩)])) (λN E=>cf 26 [.pointer (some ⟨mp,0,none⟩),.slice (some ⟨Mem.size E,0,none⟩) 2 2] (Mem.push E (.cells true [.pointer (some ⟨ol,0,none⟩),.pointer (some ⟨Mem.size m,0,none⟩)])) (λO J=>q (.tuple ⟨[]⟩) J)))))))):=by kernel_rfl
end
end Go.Proofs.YtgjflcgmieiafaaGreatDoor
namespace Go.Proofs.YtgjflcgmieiafaaGreatDoor
open Go Go.DI Go.DI.Kit Go.Proofs Go.Cmp
noncomputable section
section
variable{α:Type}(x:Nat->Value)(cf:Y.CF α)(L:Y.LK α)(k:Nat)(m:Mem)
theorem gD(lp:Nat)(w0 w5 w6 w7 w8 u:Value)(q:AF->Mem->Option α):Y.opsF (List.drop 8 qk) Tryz.prog kp 1 (Y.cfT Tryz.prog cf) 21 qk (AB 21 (up x [(0,w0),(5,w5),(6,w6),(7,w7),(8,w8),(17,u),(19, .pointer (some ⟨lp,0,none⟩))])) m q=
 Y.storeF Tryz.prog m 3 u (.pointer (some ⟨lp,0,none⟩)) λm'=>q (AB 21 (up (up x [(5,w5),(17,u),(19, .pointer (some ⟨lp,0,none⟩))]) [(0,w0),(6,w6),(7,w7),(8,w8)])) m':=by kernel_rfl
set_option maxHeartbeats 4000000 in
theorem gE(mp lp sb nn jb jn:Nat)(i j at_:Int)(q:AF->Mem->Option α):Y.drawF Tryz.prog kp 1 (Y.cfT Tryz.prog cf) 40 nT (AB 40 (up x [(0, .pointer (some ⟨mp,0,none⟩)),(5, .pointer (some ⟨lp,0,none⟩)),(7, .int .i64 at_),(8, .slice (some ⟨sb,0,none⟩) nn nn),(9, .int .i64 nn),(10, .int .i64 i),(17, .slice (some ⟨jb,0,some 1⟩) jn jn),(18, .int .i64 jn),(19, .int .i64 j)])) m q=
 (Y.cellsOf (Mem.get m mp) (λx_14 c_15=>(Option.elim (Y.nthL c_15 0) none (λSq=>(Y.asSl Sq (λa_17 n_18 c_19=>(Y.cellsOf (Mem.get m lp) (λx_20 c_21=>(Option.elim (Y.nthL c_21 0) none (λo22=>(Y.asInt o22 (λk'_23 n_24=>(cond (Y.kEq .i64 k'_23) (Option.elim a_17 none (λo25=>(Y.onNat at_ (λi_26=>(cond (Nat.blt i_26 n_18) (Y.storeF Tryz.prog m 108 (.int Go.IntKind.i16 (IntKind.wrap Go.IntKind.i16 (IntKind.wrap .i64 (Int.sub (IntKind.wrap .i64 (Int.sub n_24 at_)) (1:Int))))) (.pointer (some (Addr.mk o25.1 (Nat.add (Nat.add o25.2 (Nat.mul i_26 5)) 3) none))) (λm_s=>(q (AB 40 (up (up x [(32,(.int .i64 at_)),(24,(.pointer (some (Addr.mk mp 0 none)))),(36,(.pointer (some (Addr.mk o25.1 (Nat.add o25.2 (Nat.mul i_26 5)) none)))),(28,(.pointer (some (Addr.mk lp 0 none)))),(34,(.int .i64 (IntKind.wrap .i64 (Int.sub (IntKind.wrap .i64 (Int.sub n_24 at_)) (1:Int))))),(26,(.slice a_17 n_18 c_19)),(30,(.pointer (some (Addr.mk lp 0 none)))),(33,(.int .i64 (IntKind.wrap .i64 (Int.sub n_24 at_)))),(25,(.pointer (some (Addr.mk mp 0 none)))),(29,(.pointer (some (Addr.mk lp 0 none)))),(27,(.int .i64 at_)),(7,(.int .i64 at_)),(23,(.pointer (some (Addr.mk mp 0 none)))),(31,(.int .i64 n_24)),(35,(.int Go.IntKind.i16 (IntKind.wrap Go.IntKind.i16 (IntKind.wrap .i64 (Int.sub (IntKind.wrap .i64 (Int.sub n_24 at_)) (1:Int)))))),(37,(.pointer (some (Addr.mk o25.1 (Nat.add (Nat.add o25.2 (Nat.mul i_26 5)) 3) none))))]) [(0,(.pointer (some (Addr.mk mp 0 none)))),(5,(.pointer (some (Addr.mk lp 0 none)))),(8,(.slice (some (Addr.mk sb 0 none)) nn nn)),(9,(.int .i64 (Int.ofNat nn))),(10,(.int .i64 i)),(17,(.slice (some (Addr.mk jb 0 (some 1))) jn jn)),(18,(.int .i64 (Int.ofNat jn))),(19,(.int .i64 j))])) m_s))) none))))) none)) none)))))) none))))):=by kernel_rfl
theorem nU(t:AF)(q:Y.ExK α):Y.codeF (Y.loopC ql 0) Tryz.prog kp 1 (Y.cfT Tryz.prog cf) L 21 k t m q=Y.opsF qk Tryz.prog kp 1 (Y.cfT Tryz.prog cf) 21 qk t m λt m=>q .normal t m:=by kernel_rfl
theorem nV(t:AF)(q:Y.ExK α):Y.codeF (Y.loopC Za 0) Tryz.prog kp 1 (Y.cfT Tryz.prog cf) L 40 k t m q=Y.opsF uV Tryz.prog kp 1 (Y.cfT Tryz.prog cf) 40 uV t m λt m=>q .normal t m:=by kernel_rfl
theorem rr:Y.loopC RE 0=Code.region 6 ⟨nT⟩ true:=by kernel_rfl
theorem gF(t:AF)(q:Y.ExK α):Y.codeF (Y.loopC RE 0) Tryz.prog kp 1 (Y.cfT Tryz.prog cf) L 40 k t m q=Y.drawF Tryz.prog kp 1 (Y.cfT Tryz.prog cf) 40 nT t m λt m=>q .normal t m:=by
 rw[rr];rfl
end
theorem wC:Tryz.prog.funcs[25]?=some Tryz.f25:=by kernel_rfl
theorem wD:Tryz.f25.body=some (AM Tryz.f25):=by kernel_rfl
theorem wE:Tryz.f25.ntmps=21:=by kernel_rfl
theorem n23{a b:Value}:max [a,b].length Tryz.f25.ntmps=21:=by rw[wE];rfl
theorem wF:I5 Tryz.prog 25 CB=true:=by kernel_rfl
theorem wG:Tryz.prog.funcs[26]?=some Tryz.f26:=by kernel_rfl
theorem wH:Tryz.f26.body=some (AM Tryz.f26):=by kernel_rfl
theorem wI:Tryz.f26.ntmps=40:=by kernel_rfl
theorem n24{a b:Value}:max [a,b].length Tryz.f26.ntmps=40:=by rw[wI];rfl
theorem wJ:I5 Tryz.prog 26 CB=true:=by kernel_rfl
theorem wK:Bz Tryz.prog 108=some 1:=by kernel_rfl
section
variable{K K':CH}{mp:Nat}{rows:List BB}{AL labs':List (Nat×Nat)}{fr fr':Nat->Prop}{M M':Mem}
variable{o:C1}{k:Nat}
theorem St.here{lp l:Nat}(h:St K mp rows ((lp,l)::AL) fr M):∃u,M.get mp= .cells true [.slice u (B3 rows) (B3 rows)]/\∃c,M.get lp= .cells true c/\c.length=2/\St K mp (rows++ [lab l]) ((lp,l)::AL) fr (M.set lp (.cells true (splice c 0 [.int .i64 (B3 rows:Int)]))):=by
 obtain⟨f,h⟩:=h
 have hlen:=CE f rows 0
 have hpos:=h.pos (lp,l) (List.mem_cons_self ..)
 have hnod:=List.nodup_cons.1 h.nod
 have hne:∀y∈AL,y.2≠l:=λy hy e=>hnod.1 (List.mem_map.2 ⟨y,hy,e⟩)
 obtain⟨_,_,_,⟨u,rfl⟩,gm,_⟩:=h.hp.set
 have h2:Hp M K ((lp,OK (Jy rows l:Int) (Br l rows 0))::(mp,Hk (Cj f rows 0))::AL.map (Pp rows)):=h.hp.perm (List.Perm.swap _ _ _)
 obtain⟨_,_,_,⟨v,rfl⟩,gl2,hs⟩:=h2.set
 refine⟨u,?_,_,gl2,rfl,f,?_,h.glob,h.pos,h.nod,?_,?_,?_⟩
 ·rw[gm];show _=BI.cells true [.slice u (B3 rows) (B3 rows)];rw[←hlen];rfl
 ·have hs:=hs [.int .i64 (B3 rows:Int)] []
  have e1:AL.map (Pp (rows++ [lab l]))=AL.map (Pp rows):=by
   refine List.map_congr_left λy hy=>?_;simp only[Pp,KF rows hpos.1,Ku rows _ hpos.1];rw[if_neg (hne y hy)]
  have e2:Pp (rows++ [lab l]) (lp,l)=(lp,OK (B3 rows:Int) (Br l rows 0)):=by
   simp only[Pp,KF rows hpos.1,Ku rows _ hpos.1,if_true]
  rw[List.map_cons,e1,e2,Og f rows hpos.1];exact hs.perm (List.Perm.swap _ _ _)
 ·intro j hj;obtain⟨g0,g1,g2,g3⟩:=h.free j hj;refine⟨g0,g1,g2,λr hr=>?_⟩;rcases List.mem_append.1 hr with hr|hr
  ·exact g3 r hr
  ·obtain rfl:=List.mem_singleton.1 hr;exact⟨by show 0≠j;omega,g2 (lp,l) (List.mem_cons_self ..)⟩
 ·intro j q hq;rw[KF rows hpos.1,if_neg (by rintro rfl;rw[hpos.2]at hq;cases hq)];exact h.sett j q hq
 ·intro r hr h0;rcases List.mem_append.1 hr with hr|hr
  ·exact h.known r hr h0
  ·obtain rfl:=List.mem_singleton.1 hr;exact absurd h0 (Nat.lt_irrefl 0)
theorem MK{sb lp l:Nat}(ho:∀a m,o 25 a m=none)(hk:5<=k)(hl:rows.length<=100000)(h:St K mp rows ((lp,l)::AL) fr M)(hsb:K sb=some (.cells true [ptr lp])):
  ∃M',AJ Tryz.prog kp 1 o k 25 [ptr mp, .slice (some ⟨sb,0,none⟩) 1 1] M=some (CB,M')/\St K mp (rows++ [lab l]) ((lp,l)::AL) fr M':=by
 obtain⟨k,rfl⟩:∃k',k=k'+1:=⟨k - 1,by omega⟩
 obtain⟨u,gm,c,gc,hcl,h'⟩:=h.here
 have gs:=h.get hsb
 obtain⟨M1,hM1⟩:∃M1,M.set lp (.cells true (splice c 0 [.int .i64 (B3 rows:Int)]))=M1:=⟨_,rfl⟩
 rw[hM1]at h'
 refine⟨M1,CJ 21 (ho _ _) wC wD n23 ?_ wF,h'⟩
 refine Eq.trans (XZ ..) ?_
 have hT:∀x,∃x',AI Tryz.prog kp 1 (AJ Tryz.prog kp 1 o k) (AV Tryz.prog kp 1 (AJ Tryz.prog kp 1 o k) 21) 21 k (BK Tryz.f25 0) (AB 21 (up x [(0, .pointer (some ⟨mp,0,none⟩)),(6, .slice (some ⟨sb,0,none⟩) 1 1),(7, .int .i64 (1:Nat)),(8, .int .i64 (0:Nat))])) M=
   some (.normal,AB 21 (up x' [(0, .pointer (some ⟨mp,0,none⟩)),(6, .slice (some ⟨sb,0,none⟩) 1 1),(7, .int .i64 (1:Nat)),(8, .int .i64 (1:Nat))]),M1):=by
  intro x;apply Exists.intro;refine Ei ((BW [3] Tryz.prog kp 1 _ (Y.lpOf Tryz.prog kp 1 (AJ Tryz.prog kp 1 o k) 21) (λ_ _ _ _ _ _ _=>rfl) 21 k (BK Tryz.f25 0) (by kernel_rfl) _ M _).trans ?_);refine Eq.trans (VK ..) ?_;rw[ET (by omega),AH,EH,Fg (by omega),AH,gs,AR,show Y.nthL [ptr lp] (Nat.add 0 (Nat.mul 0 1))=some (.pointer (some ⟨lp,0,none⟩))from rfl,BN,kj];refine Eq.trans (BG _ _ _ (by kernel_rfl) _ _ _ _) ?_;refine Eq.trans (nU ..) ?_;refine Eq.trans (By 8 ..) ?_;refine Eq.trans (gG ..) ?_;rw[gm,AR,show Y.nthL [Value.slice u (B3 rows) (B3 rows)] 0=some (.slice u (B3 rows) (B3 rows))from rfl,BN,Dk];refine Eq.trans (gD ..) ?_;rw[Y.storeF_eq,show Bx Tryz.prog M 3 (.int .i64 (Int.ofNat (B3 rows))) (.pointer (some ⟨lp,0,none⟩))=some M1 from(Ce (n:=1) xp rfl gc (by omega) rfl).trans (congrArg some hM1),Y.ob_some];refine Eq.trans (gH ..) ?_;rw[Ct (by omega)];rfl
 have hS:∀x,∃x',AI Tryz.prog kp 1 (AJ Tryz.prog kp 1 o k) (AV Tryz.prog kp 1 (AJ Tryz.prog kp 1 o k) 21) 21 k (BK Tryz.f25 0) (AB 21 (up x [(0, .pointer (some ⟨mp,0,none⟩)),(6, .slice (some ⟨sb,0,none⟩) 1 1),(7, .int .i64 (1:Nat)),(8, .int .i64 (1:Nat))])) M1=
   some (.exit 0,AB 21 (up x' [(0, .pointer (some ⟨mp,0,none⟩)),(6, .slice (some ⟨sb,0,none⟩) 1 1),(7, .int .i64 (1:Nat)),(8, .int .i64 (1:Nat))]),M1):=by
  intro x;apply Exists.intro;refine Ei ((BW [3] Tryz.prog kp 1 _ (Y.lpOf Tryz.prog kp 1 (AJ Tryz.prog kp 1 o k) 21) (λ_ _ _ _ _ _ _=>rfl) 21 k (BK Tryz.f25 0) (by kernel_rfl) _ M1 _).trans ?_);refine Eq.trans (VK ..) ?_;rw[Gh (by omega),BH];rfl
 obtain⟨k2,rfl⟩:∃k2,k=k2+2:=⟨k - 2,by omega⟩
 obtain⟨x1,hT⟩:=hT (up Go.DI.x0 [(1,(.slice (some (Addr.mk sb 0 none)) 1 1))])
 obtain⟨x2,hS⟩:=hS x1
 have hloop:BT _ (k2+2) _ _=_:=(Ck (k2+1) hT).trans (CY k2 hS (by simp))
 rw[show((0:Nat):Int)=0 from rfl]at hloop
 rw[Y.lpOf_eq,Y.loopC_body,Int.ofNat_eq_natCast,hloop,Y.onE_some]
 exact TS ..
theorem Hv(q n:Nat):∀(J:List Nat) (c:List B9),(DJ q n J c).length=c.length
 | [],c=>rfl
 |p::J,c=>(Hv q n J _).trans (G3 _ _ _)
theorem Hw(q n:Nat):∀(a b:List Nat) (c:List B9),DJ q n (a++b) c=DJ q n b (DJ q n a c)
 | [],b,c=>rfl
 |p::a,b,c=>Hw q n a b _
def VL(J:List Nat):List Value:=J.map λ(j:Nat)=> .int .i64 (j:Int)
theorem X0{J:List Nat}{j p:Nat}(h:J[j]?=some p):Y.nthL (VL J) (Nat.add 0 (Nat.mul j 1))=some (.int .i64 (p:Int)):=by
 rw[show Nat.add 0 (Nat.mul j 1)=j from by show 0+j*1=j;omega,Y.nthL_eq,VL,List.getElem?_map,h];rfl
theorem Mm{hs:List (Nat×Bw)}{c0:List B9}{J:List Nat}{q lp jb sb nn i:Nat}(hq:q<=1000000)(hc:c0.length<=1000000)(hJ:∀p∈J,p<c0.length)(hJl:J.length<=1000000)(hk:J.length+1<=k):
  ∀(d j:Nat),J.length=j+d->∀(jj:Nat) (x:Nat->Value) (M:Mem),d+1<=jj->Hp M K ((mp,Hk (DJ q 0 (J.take j) c0))::(lp,OK (q:Int) J)::hs)->(J≠ []->M.get lp= .cells true [.int .i64 (q:Int), .slice (some ⟨jb,0,some 1⟩) J.length J.length]/\M.get jb= .cells true (VL J))->
  ∃x' M',BT (AI Tryz.prog kp 1 (AJ Tryz.prog kp 1 o k) (AV Tryz.prog kp 1 (AJ Tryz.prog kp 1 o k) 40) 40 k (BK Tryz.f26 1)) jj
    (AB 40 (up x [(0, .pointer (some ⟨mp,0,none⟩)),(5, .pointer (some ⟨lp,0,none⟩)),(8, .slice (some ⟨sb,0,none⟩) nn nn),(9, .int .i64 (nn:Int)),(10, .int .i64 (i:Int)),(17, .slice (some ⟨jb,0,some 1⟩) J.length J.length),(18, .int .i64 (J.length:Int)),(19, .int .i64 (j:Int))])) M=
   some (.exit 2,AB 40 (up x' [(0, .pointer (some ⟨mp,0,none⟩)),(5, .pointer (some ⟨lp,0,none⟩)),(8, .slice (some ⟨sb,0,none⟩) nn nn),(9, .int .i64 (nn:Int)),(10, .int .i64 (i:Int)),(17, .slice (some ⟨jb,0,some 1⟩) J.length J.length),(18, .int .i64 (J.length:Int)),(19, .int .i64 (J.length:Int))]),M')/\
   Hp M' K ((mp,Hk (DJ q 0 J c0))::(lp,OK (q:Int) J)::hs)
 |0,j,hj,jj,x,M,hjj,hh,_=>by
  obtain⟨jj,rfl⟩:∃j',jj=j'+1:=⟨jj - 1,by omega⟩;obtain rfl:j=J.length:=by omega
  rw[List.take_length]at hh
  have hb:∃x',AI Tryz.prog kp 1 (AJ Tryz.prog kp 1 o k) (AV Tryz.prog kp 1 (AJ Tryz.prog kp 1 o k) 40) 40 k (BK Tryz.f26 1) (AB 40 (up x [(0, .pointer (some ⟨mp,0,none⟩)),(5, .pointer (some ⟨lp,0,none⟩)),(8, .slice (some ⟨sb,0,none⟩) nn nn),(9, .int .i64 (nn:Int)),(10, .int .i64 (i:Int)),(17, .slice (some ⟨jb,0,some 1⟩) J.length J.length),(18, .int .i64 (J.length:Int)),(19, .int .i64 (J.length:Int))])) M=
    some (.exit 2,AB 40 (up x' [(0, .pointer (some ⟨mp,0,none⟩)),(5, .pointer (some ⟨lp,0,none⟩)),(8, .slice (some ⟨sb,0,none⟩) nn nn),(9, .int .i64 (nn:Int)),(10, .int .i64 (i:Int)),(17, .slice (some ⟨jb,0,some 1⟩) J.length J.length),(18, .int .i64 (J.length:Int)),(19, .int .i64 (J.length:Int))]),M):=by
   apply Exists.intro;refine Ei ((BW [6] Tryz.prog kp 1 _ (Y.lpOf Tryz.prog kp 1 (AJ Tryz.prog kp 1 o k) 40) (λ_ _ _ _ _ _ _=>rfl) 40 k (BK Tryz.f26 1) (by kernel_rfl) _ M _).trans ?_);refine Eq.trans (Zb ..) ?_;rw[Gh (by omega),BH];rfl
  obtain⟨x',hb⟩:=hb;exact⟨x',M,CY jj hb (by simp),hh⟩
 |d+1,j,hj,jj,x,M,hjj,hh,hm=>by
  obtain⟨jj,rfl⟩:∃j',jj=j'+1:=⟨jj - 1,by omega⟩;have hlt:j<J.length:=by omega
  have hJ0:J≠ []:=by rintro rfl;simp at hlt
  obtain⟨p,hp⟩:∃p,J[j]?=some p:=⟨_,List.getElem?_eq_getElem hlt⟩;have hpm:p∈J:=List.mem_of_getElem? hp;have hpl:=hJ p hpm;obtain⟨gl1,gj1⟩:=hm hJ0;obtain⟨cj,hcj⟩:∃cj,DJ q 0 (J.take j) c0=cj:=⟨_,rfl⟩;have hcl:cj.length=c0.length:=by rw[←hcj];exact Hv ..
  rw[hcj]at hh;obtain⟨c,c2,gm,gc,gl2,gj2,n1,n2,n3,hset⟩:=hh.poke2 (by show 0<cj.length;omega) (by show 0<J.length;omega)
  have e2:c2=jb:=by
   rw[gl1]at gl2;simp[OK]at gl2;exact gl2.symm
  subst e2
  have hst:Bx Tryz.prog M 108 (.int .i16 (Gy ((q:Int) - p - 1))) (.pointer (some ⟨c,p*5+3,none⟩))=some (M.set c (.cells true (AE (KG cj p (TM q p))))):=by
   rw[Ce (n:=1) wK rfl gc (by show p*5+3+1<=(AE cj).length;rw[I9];omega) rfl];congr 3;exact Oh q cj p p (by omega)
  obtain⟨M1,hM1⟩:∃M1,M.set c (.cells true (AE (KG cj p (TM q p))))=M1:=⟨_,rfl⟩;rw[hM1]at hst
  have hh1:Hp M1 K ((mp,Hk (DJ q 0 (J.take (j+1)) c0))::(lp,OK (q:Int) J)::hs):=by
   have:=hset (AE (KG cj p (TM q p))) (by show _=(AE cj).length;rw[I9,I9,G3]) (Oi _);rw[hM1]at this
   have e:DJ q 0 (J.take (j+1)) c0=KG cj p (TM q p):=by
    rw[List.take_add_one,hp,Option.toList_some,Hw,hcj];rfl
   rw[e];have e3:({Hk cj with c:=AE (KG cj p (TM q p))}:Bw)=Hk (KG cj p (TM q p)):=by simp[Hk,G3,AE]
   rw[e3]at this;exact this
  have gl3:M1.get lp= .cells true [.int .i64 (q:Int), .slice (some ⟨c2,0,some 1⟩) J.length J.length]:=by rw[←hM1,Mem.get_set_ne _ n2];exact gl1
  have gj3:M1.get c2= .cells true (VL J):=by rw[←hM1,Mem.get_set_ne _ n3];exact gj1
  have gm3:M1.get mp= .cells true [.slice (some ⟨c,0,some 5⟩) cj.length cj.length]:=by rw[←hM1,Mem.get_set_ne _ n1];exact gm
  have gm':M.get mp= .cells true [.slice (some ⟨c,0,some 5⟩) cj.length cj.length]:=gm
  have hb:∃x',AI Tryz.prog kp 1 (AJ Tryz.prog kp 1 o k) (AV Tryz.prog kp 1 (AJ Tryz.prog kp 1 o k) 40) 40 k (BK Tryz.f26 1) (AB 40 (up x [(0, .pointer (some ⟨mp,0,none⟩)),(5, .pointer (some ⟨lp,0,none⟩)),(8, .slice (some ⟨sb,0,none⟩) nn nn),(9, .int .i64 (nn:Int)),(10, .int .i64 (i:Int)),(17, .slice (some ⟨c2,0,some 1⟩) J.length J.length),(18, .int .i64 (J.length:Int)),(19, .int .i64 (j:Int))])) M=
    some (.normal,AB 40 (up x' [(0, .pointer (some ⟨mp,0,none⟩)),(5, .pointer (some ⟨lp,0,none⟩)),(8, .slice (some ⟨sb,0,none⟩) nn nn),(9, .int .i64 (nn:Int)),(10, .int .i64 (i:Int)),(17, .slice (some ⟨c2,0,some 1⟩) J.length J.length),(18, .int .i64 (J.length:Int)),(19, .int .i64 ((j+1:Nat):Int))]),M1):=by
   apply Exists.intro;refine Ei ((BW [6] Tryz.prog kp 1 _ (Y.lpOf Tryz.prog kp 1 (AJ Tryz.prog kp 1 o k) 40) (λ_ _ _ _ _ _ _=>rfl) 40 k (BK Tryz.f26 1) (by kernel_rfl) _ M _).trans ?_);refine Eq.trans (Zb ..) ?_;rw[ET hlt,AH,EH,Fg hlt,AH,gj1,AR,X0 hp,BN,BF,CN,AH];refine Eq.trans (BG _ _ _ (by kernel_rfl) _ _ _ _) ?_;refine Eq.trans (gF ..) ?_;refine Eq.trans (gE ..) ?_
   rw[gm',AR,show Y.nthL [Value.slice (some ⟨c,0,some 5⟩) cj.length cj.length] 0=some (.slice (some ⟨c,0,some 5⟩) cj.length cj.length)from rfl,BN,Dk,gl1,AR,
    show Y.nthL [Value.int .i64 (q:Int), .slice (some ⟨c2,0,some 1⟩) J.length J.length] 0=some (.int .i64 (q:Int))from rfl,BN,BF,CN,AH,BN,EH,Fg (by omega),AH]
   rw[wrap64 (x:=Int.sub (q:Int) (p:Int)) (by show _<=(q:Int) - (p:Int)/\(q:Int) - (p:Int)<=_;omega),wrap64 (x:=Int.sub (Int.sub (q:Int) (p:Int)) 1) (by show _<=(q:Int) - (p:Int) - 1/\(q:Int) - (p:Int) - 1<=_;omega)];rw[Y.storeF_eq,show Nat.add (Nat.add ({block:=c,off:=0,spot:=some 5}:Addr).2 (Nat.mul p 5)) 3=p*5+3 from by show 0+p*5+3=_;omega];rw[show Bx Tryz.prog M 108 (.int .i16 (IntKind.wrap .i16 (Int.sub (Int.sub (q:Int) (p:Int)) 1))) (.pointer (some ⟨c,p*5+3,none⟩))=some M1 from hst,Y.ob_some];refine Eq.trans (nW ..) ?_;rw[Ct (by omega)];rfl
  obtain⟨x',hb⟩:=hb;obtain⟨x2,M2,h2,h3⟩:=Mm hq hc hJ hJl hk d (j+1) (by omega) jj x' M1 (by omega) hh1 λ_=>⟨gl3,gj3⟩;exact⟨x2,M2,(Ck jj hb).trans h2,h3⟩
end
theorem gJ{α:Type}(x:Nat->Value)(cf:Y.CF α)(L:Y.LK α)(k:Nat)(w0 w5 w8 w9 w10 w17:Value)(m:Mem)(q:Y.ExK α):Y.codeF RE Tryz.prog kp 1 (Y.cfT Tryz.prog cf) L 40 k (AB 40 (up x [(0,w0),(5,w5),(8,w8),(9,w9),(10,w10),(17,w17),(18, .int .i64 (0:Nat)),(19, .int .i64 (0:Nat))])) m q=
 q (.exit 2) (AB 40 (up (up x [(20, .bool false)]) [(0,w0),(5,w5),(8,w8),(9,w9),(10,w10),(17,w17),(18, .int .i64 (0:Nat)),(19, .int .i64 (0:Nat))])) m:=by kernel_rfl
theorem wL:Y.loopC Za 1=BK Tryz.f26 1:=by kernel_rfl
section
variable{K K':CH}{mp:Nat}{rows:List BB}{AL labs':List (Nat×Nat)}{fr fr':Nat->Prop}{M M':Mem}
variable{o:C1}{k:Nat}
theorem X1{hs:List (Nat×Bw)}{c0:List B9}{J:List Nat}{q lp sb nn i:Nat}(hq:q<=1000000)(hc:c0.length<=1000000)(hJ:∀p∈J,p<c0.length)(hJl:J.length<=1000000)(hk:J.length+1<=k) (hh:Hp M K ((mp,Hk c0)::(lp,OK (q:Int) J)::hs)):
  ∃a,M.get lp= .cells true [.int .i64 (q:Int), .slice a J.length J.length]/\∀x,∃x' M',BT (AI Tryz.prog kp 1 (AJ Tryz.prog kp 1 o k) (AV Tryz.prog kp 1 (AJ Tryz.prog kp 1 o k) 40) 40 k (BK Tryz.f26 1)) k
    (AB 40 (up x [(0, .pointer (some ⟨mp,0,none⟩)),(5, .pointer (some ⟨lp,0,none⟩)),(8, .slice (some ⟨sb,0,none⟩) nn nn),(9, .int .i64 (nn:Int)),(10, .int .i64 (i:Int)),(17, .slice a J.length J.length),(18, .int .i64 (J.length:Int)),(19, .int .i64 (0:Nat))])) M=
   some (.exit 2,AB 40 (up x' [(0, .pointer (some ⟨mp,0,none⟩)),(5, .pointer (some ⟨lp,0,none⟩)),(8, .slice (some ⟨sb,0,none⟩) nn nn),(9, .int .i64 (nn:Int)),(10, .int .i64 (i:Int)),(17, .slice a J.length J.length),(18, .int .i64 (J.length:Int)),(19, .int .i64 (J.length:Int))]),M')/\
   Hp M' K ((mp,Hk (DJ q 0 J c0))::(lp,OK (q:Int) J)::hs):=by
 have h2:Hp M K ((lp,OK (q:Int) J)::(mp,Hk c0)::hs):=hh.perm (List.Perm.swap _ _ _)
 by_cases hJ0:J= []
 ·obtain⟨_,_,_,⟨u,rfl⟩,gm,_⟩:=h2.set;refine⟨u,gm,λx=>?_⟩;subst hJ0;obtain⟨k,rfl⟩:∃k',k=k'+1:=⟨k - 1,by omega⟩
  have hb:∃x',AI Tryz.prog kp 1 (AJ Tryz.prog kp 1 o (k+1)) (AV Tryz.prog kp 1 (AJ Tryz.prog kp 1 o (k+1)) 40) 40 (k+1) (BK Tryz.f26 1) (AB 40 (up x [(0, .pointer (some ⟨mp,0,none⟩)),(5, .pointer (some ⟨lp,0,none⟩)),(8, .slice (some ⟨sb,0,none⟩) nn nn),(9, .int .i64 (nn:Int)),(10, .int .i64 (i:Int)),(17, .slice u 0 0),(18, .int .i64 (0:Nat)),(19, .int .i64 (0:Nat))])) M=
    some (.exit 2,AB 40 (up x' [(0, .pointer (some ⟨mp,0,none⟩)),(5, .pointer (some ⟨lp,0,none⟩)),(8, .slice (some ⟨sb,0,none⟩) nn nn),(9, .int .i64 (nn:Int)),(10, .int .i64 (i:Int)),(17, .slice u 0 0),(18, .int .i64 (0:Nat)),(19, .int .i64 (0:Nat))]),M):=by
   apply Exists.intro;refine Ei ((BW [6] Tryz.prog kp 1 _ (Y.lpOf Tryz.prog kp 1 (AJ Tryz.prog kp 1 o (k+1)) 40) (λ_ _ _ _ _ _ _=>rfl) 40 (k+1) (BK Tryz.f26 1) (by kernel_rfl) _ M _).trans ?_);exact gJ ..
  obtain⟨x',hb⟩:=hb;exact⟨x',M,CY k hb (by simp),hh⟩
 ·have h0:0<J.length:=List.length_pos_iff.2 hJ0;obtain⟨c,g1,g2,_⟩:=h2.poke h0;refine⟨some ⟨c,0,some 1⟩,g1,λx=>?_⟩;exact Mm hq hc hJ hJl hk J.length 0 (by omega) k x M (by omega) (by rw[List.take_zero];exact hh) λ_=>⟨g1,g2⟩
theorem wM.settled{f:Nat->Option Nat}{lp l:Nat}(h:wM K mp f rows ((lp,l)::AL) fr M) (h':Hp M' K ((mp,Hk (DJ (Jy rows l) 0 (Br l rows 0) (Cj f rows 0)))::(lp,OK (Jy rows l:Int) (Br l rows 0))::AL.map (Pp rows))):St K mp rows AL fr M':=by
 have hpos:=h.pos (lp,l) (List.mem_cons_self ..)
 have hnod:=List.nodup_cons.1 h.nod
 have hne:∀y∈AL,y.2≠l:=λy hy e=>hnod.1 (List.mem_map.2 ⟨y,hy,e⟩)
 rw[JZ f l (Jy rows l) hpos.1 rows 0]at h'
 refine⟨Pq f l (Jy rows l),(h'.perm (List.Perm.swap _ _ _)).tail,h.glob,λx hx=>⟨(h.pos x (List.mem_cons_of_mem _ hx)).1,?_⟩,hnod.2,λj hj=>?_,λj q hq=>?_,λr hr h0=>?_⟩
 ·unfold Pq;rw[if_neg (hne x hx)];exact(h.pos x (List.mem_cons_of_mem _ hx)).2
 ·obtain⟨g0,g1,g2,g3⟩:=h.free j hj;refine⟨g0,?_,λx hx=>g2 x (List.mem_cons_of_mem _ hx),g3⟩;unfold Pq;rw[if_neg (λe=>g2 (lp,l) (List.mem_cons_self ..) e.symm)];exact g1
 ·unfold Pq at hq;split at hq
  ·rename_i e;rw[e];exact(Option.some.inj hq).symm
  ·exact h.sett j q hq
 ·by_cases he:r.to=l
  ·right;unfold Pq;rw[if_pos he];rfl
  ·rcases h.known r hr h0 with⟨x,hx,hxe⟩|hs
   ·rcases List.mem_cons.1 hx with rfl|hx
    ·exact absurd hxe.symm he
    ·exact .inl ⟨x,hx,hxe⟩
   ·right;unfold Pq;rw[if_neg he];exact hs
theorem Lc{ps:List (Nat×Nat)}{sb:Nat}(hl:rows.length<=100000)(hk:rows.length+1<=k)(hps:ps.length<=100000)(hsb:K sb=some (.cells true (ps.map λx=>ptr x.1))):
  ∀(d i:Nat),ps.length=i+d->∀(jj:Nat) (x:Nat->Value) (M:Mem),d+1<=jj->St K mp rows (ps.drop i++AL) fr M->
  ∃x' M',BT (AI Tryz.prog kp 1 (AJ Tryz.prog kp 1 o k) (AV Tryz.prog kp 1 (AJ Tryz.prog kp 1 o k) 40) 40 k (BK Tryz.f26 0)) jj
    (AB 40 (up x [(0, .pointer (some ⟨mp,0,none⟩)),(8, .slice (some ⟨sb,0,none⟩) ps.length ps.length),(9, .int .i64 (ps.length:Int)),(10, .int .i64 (i:Int))])) M=
   some (.exit 0,AB 40 (up x' [(0, .pointer (some ⟨mp,0,none⟩)),(8, .slice (some ⟨sb,0,none⟩) ps.length ps.length),(9, .int .i64 (ps.length:Int)),(10, .int .i64 (ps.length:Int))]),M')/\St K mp rows AL fr M'
 |0,i,hi,jj,x,M,hjj,h=>by
  obtain⟨jj,rfl⟩:∃j',jj=j'+1:=⟨jj - 1,by omega⟩;obtain rfl:i=ps.length:=by omega
  rw[List.drop_length,List.nil_append]at h
  have hb:∃x',AI Tryz.prog kp 1 (AJ Tryz.prog kp 1 o k) (AV Tryz.prog kp 1 (AJ Tryz.prog kp 1 o k) 40) 40 k (BK Tryz.f26 0) (AB 40 (up x [(0, .pointer (some ⟨mp,0,none⟩)),(8, .slice (some ⟨sb,0,none⟩) ps.length ps.length),(9, .int .i64 (ps.length:Int)),(10, .int .i64 (ps.length:Int))])) M=
    some (.exit 0,AB 40 (up x' [(0, .pointer (some ⟨mp,0,none⟩)),(8, .slice (some ⟨sb,0,none⟩) ps.length ps.length),(9, .int .i64 (ps.length:Int)),(10, .int .i64 (ps.length:Int))]),M):=by
   apply Exists.intro;refine Ei ((BW [3] Tryz.prog kp 1 _ (Y.lpOf Tryz.prog kp 1 (AJ Tryz.prog kp 1 o k) 40) (λ_ _ _ _ _ _ _=>rfl) 40 k (BK Tryz.f26 0) (by kernel_rfl) _ M _).trans ?_);refine Eq.trans (Zc ..) ?_;rw[Gh (by omega),BH];rfl
  obtain⟨x',hb⟩:=hb;exact⟨x',M,CY jj hb (by simp),h⟩
 |d+1,i,hi,jj,x,M,hjj,h=>by
  obtain⟨jj,rfl⟩:∃j',jj=j'+1:=⟨jj - 1,by omega⟩;have hlt:i<ps.length:=by omega
  obtain⟨p,hp⟩:∃p,ps[i]?=some p:=⟨_,List.getElem?_eq_getElem hlt⟩;obtain⟨lp,l⟩:=p
  have hd:ps.drop i=(lp,l)::ps.drop (i+1):=by
   rw[List.drop_eq_getElem_cons hlt];congr 1;rw[List.getElem?_eq_getElem hlt]at hp;exact Option.some.inj hp
  rw[hd,List.cons_append]at h;have gs:=h.get hsb;obtain⟨f,h⟩:=h;have hc:=Mn rows;have hlen:=CE f rows 0;have hjl:=Fm l rows 0;obtain⟨a,gl1,hloop⟩:=X1 (o:=o) (k:=k) (c0:=Cj f rows 0) (J:=Br l rows 0) (q:=Jy rows l) (lp:=lp) (hs:=(ps.drop (i+1)++AL).map (Pp rows)) (sb:=sb) (nn:=ps.length) (i:=i) (by have:=gK rows l;omega) (by omega) (λp hp=>by have:=Kv l rows 0 p hp;omega) (by omega) (by omega) h.hp;obtain⟨xx,hxx⟩:∃xx:Nat->Value,xx=up (up x [(12,(.pointer (some (Addr.mk sb (Nat.add 0 (Nat.mul i 1)) none)))),(13,(.pointer (some ⟨lp,0,none⟩))),(11,(.bool true))]) [(16,(.pointer (some (Addr.mk lp 1 none)))),(14,(.pointer (some (Addr.mk lp 0 none)))),(15,(.pointer (some (Addr.mk lp 0 none))))]:=⟨_,rfl⟩;obtain⟨x1,M1,hloop,hh⟩:=hloop xx;rw[show((0:Nat):Int)=0 from rfl]at hloop;have hs1:=h.settled hh
  have hb:∃x',AI Tryz.prog kp 1 (AJ Tryz.prog kp 1 o k) (AV Tryz.prog kp 1 (AJ Tryz.prog kp 1 o k) 40) 40 k (BK Tryz.f26 0) (AB 40 (up x [(0, .pointer (some ⟨mp,0,none⟩)),(8, .slice (some ⟨sb,0,none⟩) ps.length ps.length),(9, .int .i64 (ps.length:Int)),(10, .int .i64 (i:Int))])) M=
    some (.normal,AB 40 (up x' [(0, .pointer (some ⟨mp,0,none⟩)),(8, .slice (some ⟨sb,0,none⟩) ps.length ps.length),(9, .int .i64 (ps.length:Int)),(10, .int .i64 ((i+1:Nat):Int))]),M1):=by
   apply Exists.intro;refine Ei ((BW [3] Tryz.prog kp 1 _ (Y.lpOf Tryz.prog kp 1 (AJ Tryz.prog kp 1 o k) 40) (λ_ _ _ _ _ _ _=>rfl) 40 k (BK Tryz.f26 0) (by kernel_rfl) _ M _).trans ?_);refine Eq.trans (Zc ..) ?_
   rw[ET hlt,AH,EH,Fg hlt,AH,gs,AR,show Y.nthL (ps.map λx=>ptr x.1) (Nat.add 0 (Nat.mul i 1))=some (.pointer (some ⟨lp,0,none⟩))from by
    rw[show Nat.add 0 (Nat.mul i 1)=i from by show 0+i*1=i;omega,Y.nthL_eq,List.getElem?_map,hp];rfl,BN,kj]
   refine Eq.trans (BG _ _ _ (by kernel_rfl) _ _ _ _) ?_;refine Eq.trans (nV ..) ?_;refine Eq.trans (nX ..) ?_;rw[gl1,AR,show Y.nthL [Value.int .i64 (Jy rows l:Int), .slice a (Br l rows 0).length (Br l rows 0).length] 1=some (.slice a (Br l rows 0).length (Br l rows 0).length)from rfl,BN,Dk];rw[←hxx];refine Eq.trans (nY ..) ?_;refine Eq.trans (E5 _ _ (by kernel_rfl) _ _ _ _) ?_;rw[Y.lpOf_eq,wL];simp only[Int.ofNat_eq_natCast];rw[hloop,Y.onE_some];refine Eq.trans (nZ ..) ?_;rw[Ct (by omega)];rfl
  obtain⟨x',hb⟩:=hb;obtain⟨x2,M2,h2,h3⟩:=Lc hl hk hps hsb d (i+1) (by omega) jj x' M1 (by omega) hs1;exact⟨x2,M2,(Ck jj hb).trans h2,h3⟩
theorem Kr{ps:List (Nat×Nat)}{sb:Nat}(ho:∀a m,o 26 a m=none)(hl:rows.length<=100000)(hk:100000+10<=k)(hps:ps.length<=100)(hsb:K sb=some (.cells true (ps.map λx=>ptr x.1)))(h:St K mp rows (ps++AL) fr M):
  ∃M',AJ Tryz.prog kp 1 o k 26 [ptr mp, .slice (some ⟨sb,0,none⟩) ps.length ps.length] M=some (CB,M')/\St K mp rows AL fr M':=by
 obtain⟨k,rfl⟩:∃k',k=k'+1:=⟨k - 1,by omega⟩
 obtain⟨x',M',hloop,h'⟩:=Lc (o:=o) (k:=k) hl (by omega) (by omega) hsb ps.length 0 (by omega) k (up Go.DI.x0 [(1,(.slice (some (Addr.mk sb 0 none)) ps.length ps.length))]) M (by omega) h
 rw[show((0:Nat):Int)=0 from rfl]at hloop
 refine⟨M',CJ 40 (ho _ _) wG wH n24 ?_ wJ,h'⟩
 refine Eq.trans (Zd ..) ?_
 rw[Y.lpOf_eq,Y.loopC_body]
 simp only[Int.ofNat_eq_natCast]
 rw[hloop,Y.onE_some]
 exact X2 ..
end
theorem vU:Tryz.prog.funcs[19]?=some Tryz.f19:=by kernel_rfl
theorem vV:Tryz.f19.body=some (AM Tryz.f19):=by kernel_rfl
theorem vW:Tryz.f19.ntmps=15:=by kernel_rfl
theorem n17{a b c d:Value}:max [a,b,c,d].length Tryz.f19.ntmps=15:=by rw[vW];rfl
theorem vX:I5 Tryz.prog 19 CB=true:=by kernel_rfl
theorem vY:Tryz.prog.funcs[20]?=some Tryz.f20:=by kernel_rfl
theorem vZ:Tryz.f20.body=some (AM Tryz.f20):=by kernel_rfl
theorem v3:Tryz.f20.ntmps=19:=by kernel_rfl
theorem n18{a b c d e:Value}:max [a,b,c,d,e].length Tryz.f20.ntmps=19:=by rw[v3];rfl
theorem v5:I5 Tryz.prog 20 CB=true:=by kernel_rfl
theorem v7:Tryz.prog.funcs[21]?=some Tryz.f21:=by kernel_rfl
theorem v9:Tryz.f21.body=some (AM Tryz.f21):=by kernel_rfl
theorem vc:Tryz.f21.ntmps=8:=by kernel_rfl
theorem n19{a:Value}:max [a].length Tryz.f21.ntmps=8:=by rw[vc];rfl
theorem vd:I5 Tryz.prog 21 CB=true:=by kernel_rfl
theorem vf:Tryz.prog.funcs[22]?=some Tryz.f22:=by kernel_rfl
theorem vg:Tryz.f22.body=some (AM Tryz.f22):=by kernel_rfl
theorem vh:Tryz.f22.ntmps=18:=by kernel_rfl
theorem n20{a b c d e:Value}:max [a,b,c,d,e].length Tryz.f22.ntmps=18:=by rw[vh];rfl
theorem vi:I5 Tryz.prog 22 CB=true:=by kernel_rfl
theorem vj:Tryz.prog.funcs[24]?=some Tryz.f24:=by kernel_rfl
theorem vk:Tryz.f24.body=some (AM Tryz.f24):=by kernel_rfl
theorem vl:Tryz.f24.ntmps=14:=by kernel_rfl
theorem n22{a b:Value}:max [a,b].length Tryz.f24.ntmps=14:=by rw[vl];rfl
theorem vm:I5 Tryz.prog 24 CB=true:=by kernel_rfl
theorem vn:Tryz.prog.funcs[36]?=some Tryz.f36:=by kernel_rfl
theorem vo:Tryz.f36.body=some (AM Tryz.f36):=by kernel_rfl
theorem vp:Tryz.f36.ntmps=15:=by kernel_rfl
theorem n36{a b c d:Value}:max [a,b,c,d].length Tryz.f36.ntmps=15:=by rw[vp];rfl
theorem vq:I5 Tryz.prog 36 CB=true:=by kernel_rfl
theorem vt:Tryz.prog.funcs[38]?=some Tryz.f38:=by kernel_rfl
theorem vu:Tryz.f38.body=some (AM Tryz.f38):=by kernel_rfl
theorem vv:Tryz.f38.ntmps=20:=by kernel_rfl
theorem n38{a b c:Value}:max [a,b,c].length Tryz.f38.ntmps=20:=by rw[vv];rfl
theorem vw:I5 Tryz.prog 38 CB=true:=by kernel_rfl
theorem rj:Tryz.prog.funcs[43]?=some Tryz.f43:=by kernel_rfl
theorem rk:Tryz.f43.body=some (AM Tryz.f43):=by kernel_rfl
theorem vx:Tryz.f43.ntmps=25:=by kernel_rfl
theorem xq{a b c d:Value}:max [a,b,c,d].length Tryz.f43.ntmps=25:=by rw[vx];rfl
theorem rm:I5 Tryz.prog 43 CB=true:=by kernel_rfl
theorem vy:Tryz.prog.funcs[44]?=some Tryz.f44:=by kernel_rfl
theorem vz:Tryz.f44.body=some (AM Tryz.f44):=by kernel_rfl
theorem wA:Tryz.f44.ntmps=9:=by kernel_rfl
theorem n44{a b:Value}:max [a,b].length Tryz.f44.ntmps=9:=by rw[wA];rfl
theorem wB:I5 Tryz.prog 44 CB=true:=by kernel_rfl
theorem step{α:Type}{df:EV}{f:FuncId}{a:List Value}{m m':Mem}{v:Value}{q:Value->Mem->Option α}{r:Option α}(h:df f a m=some (v,m'))(hq:q v m'=r):Y.cfOf df f a m q=r:=by
 rw[ke,h,Kl,hq]
theorem HU{α:Type}(b:Bool)(x y:α):cond (cond b false true) x y=cond b y x:=nr (by cases b<;>rfl)
inductive La:Value->Value->B9->Prop
 |num {op d n:Int}:(op=11/\d=2)\/(op=11/\d=3)\/(op=5/\d=2)->La (Db 1 op 0 true false) (Ec ⟨0,d,0,0,n⟩) (DU op d n)
 |regs {op d s:Int}:(op=11/\d=6/\s=1)\/(op=11/\d=2/\s=8)\/(op=5/\d=2/\s=3)->La (Db 1 op 0 true true) (Ec ⟨0,d,s,0,0⟩) (Bj op d s)
 |low {n:Int}:La (Db 1 11 0 false false) (Ec ⟨0,0,0,0,n⟩) (HC n)
 |exit:La (Db 9 0 0 false false) (Ec ⟨0,0,0,0,0⟩) DS
 |const {n:Int}:La (Db 10 0 0 false false) (Ec ⟨0,3,0,0,n⟩) ⟨24,3,0,0,n⟩
 |load {z d s n:Int}:(z=4/\d=8/\s=6)\/(z=4/\d=2/\s=6)\/(z=8/\d=7/\s=1)\/((z=1\/z=2\/z=4\/z=8)/\d=2/\s=7)->La (Db 3 0 z false false) (Ec ⟨0,d,s,n,0⟩) ⟨97+8*Z6 z,d,s,n,0⟩
 |jif {op d n:Int}:(op=3/\d=8)\/(op=5/\d=2)\/(op=10/\d=2)\/(op=2/\d=2)->La (Db 6 op 0 true false) (Ec ⟨0,d,0,0,n⟩) (DO op d n)
 |jifR {op:Int}:op=10\/op=2->La (Db 6 op 0 true true) (Ec ⟨0,2,3,0,0⟩) (Ey op)
 |goto:La (Db 7 0 0 false false) (Ec ⟨0,0,0,0,0⟩) CC
 |swap {z:Int}:z=2\/z=4\/z=8->La (Db 2 0 z false false) (Ec ⟨0,2,0,0,0⟩) (Ci z)
def Uo(z:Int):Prop:=z=1\/z=2\/z=4\/z=8
def Pure(o:C1)(f:FuncId)(a:List Value)(v:Value):Prop:=∀k M,1<=k->M.top->1<=M.size->M.get 0= .cells false gl->∃M',AJ Tryz.prog kp 1 o k f a M=some (v,M')/\Ext M M'
structure Gu(o:C1):Prop where
 off:∀f,f∉ [5,34,40,41,59,65]->∀a m,o f a m=none
 mkP:∀{w i x},La w i x->∃e:Int,Pure o 65 [w,i] (.tuple ⟨[Ec x, .int .i64 e]⟩)
 most:∀{z},Uo z->Pure o 40 [.int .i64 z] (.int .u64 (B2 z))
 small:∀n:Int,Pure o 41 [.int .u64 n] (.bool (decide (n<2147483648)))
 full:∀{z},Uo z->Pure o 59 [.int .i64 z] (.int .u64 (B2 z))
 full2:∀{z},Uo z->Pure o 34 [.int .i64 z] (.int .u64 (B2 z))
theorem Gu.makes{o:C1}(h:Gu o){k:Nat}(hk:1<=k){w i:Value}{x:B9}(hm:La w i x):Ml o k w i x:=by
 obtain⟨e,hp⟩:=h.mkP hm
 intro M ht h1 h0
 obtain⟨M',c,x⟩:=hp k M hk ht h1 h0
 exact⟨e,M',c,x⟩
section
variable{K:CH}{mp:Nat}{rows:List BB}{AL:List (Nat×Nat)}{fr:Nat->Prop}{M:Mem}
variable{o:C1}{k:Nat}
def Hu(o:C1)(k:Nat)(f:FuncId)(a:List Value)(M:Mem)(Q:Mem->Prop):Prop:=∃M',AJ Tryz.prog kp 1 o k f a M=some (CB,M')/\Q M'
theorem Hu.to{f:FuncId}{a:List Value}{Q Q':Mem->Prop}(h:Hu o k f a M Q)(hq:∀m,Q m->Q' m):Hu o k f a M Q':=by
 obtain⟨M',c,h⟩:=h
 exact⟨M',c,hq _ h⟩
theorem Kt{wc wo ws:Int}{ww wr:Bool}{i x:B9}(hO:Gu o)(hk:2<=k)(hl:rows.length<=100000)(hm:La (Db wc wo ws ww wr) (Ec i) x)(h:St K mp rows AL fr M):
  Hu o k 35 [ptr mp,Db wc wo ws ww wr,Ec i] M (St K mp (rows++ [ins x 0]) AL fr):=by
 obtain⟨k,rfl⟩:∃k',k=k'+1:=⟨k - 1,by omega⟩
 exact nM (hO.off 35 (by decide)) hl h (hO.makes (by omega) hm)
theorem Po{wc wo ws:Int}{ww wr:Bool}{i x:B9}{lp l:Nat}(hO:Gu o)(hk:3<=k)(hl:rows.length<=100000)(hm:La (Db wc wo ws ww wr) (Ec i) x)(hlp:(lp,l)∈AL)(h:St K mp rows AL fr M):
  Hu o k 37 [ptr mp,Db wc wo ws ww wr,Ec i,ptr lp] M (St K mp (rows++ [ins x l]) AL fr):=by
 obtain⟨k,rfl⟩:∃k',k=k'+2:=⟨k - 2,by omega⟩
 exact gC hlp (hO.off 35 (by decide)) (hO.off 37 (by decide)) hl h (hO.makes (by omega) hm)
theorem Pm{op d n:Int}(hO:Gu o)(hk:3<=k)(hl:rows.length<=100000)(hm:(op=11/\d=2)\/(op=11/\d=3)\/(op=5/\d=2))(h:St K mp rows AL fr M):
  Hu o k 36 [ptr mp, .int .i64 op, .int .u8 d, .int .i32 n] M (St K mp (rows++ [ins (DU op d n) 0]) AL fr):=by
 obtain⟨k,rfl⟩:∃k',k=k'+1:=⟨k - 1,by omega⟩
 obtain⟨M1,c1,h1⟩:=Kt (k:=k) hO (by omega) hl (La.num (n:=n) hm) h
 refine⟨M1,CJ 15 (hO.off 36 (by decide) _ _) vn vo n36 ?_ vq,h1⟩
 refine Eq.trans (rq ..) ?_
 refine step c1 ?_
 rfl
theorem P9{op d s:Int}(hO:Gu o)(hk:3<=k)(hl:rows.length<=100000)(hm:(op=11/\d=6/\s=1)\/(op=11/\d=2/\s=8)\/(op=5/\d=2/\s=3))(h:St K mp rows AL fr M):
  Hu o k 19 [ptr mp, .int .i64 op, .int .u8 d, .int .u8 s] M (St K mp (rows++ [ins (Bj op d s) 0]) AL fr):=by
 obtain⟨k,rfl⟩:∃k',k=k'+1:=⟨k - 1,by omega⟩
 obtain⟨M1,c1,h1⟩:=Kt (k:=k) hO (by omega) hl (La.regs hm) h
 refine⟨M1,CJ 15 (hO.off 19 (by decide) _ _) vU vV n17 ?_ vX,h1⟩
 refine Eq.trans (nN ..) ?_
 refine step c1 ?_
 rfl
theorem I6{z d s n:Int}(hO:Gu o)(hk:3<=k)(hl:rows.length<=100000)(hm:(z=4/\d=8/\s=6)\/(z=4/\d=2/\s=6)\/(z=8/\d=7/\s=1)\/((z=1\/z=2\/z=4\/z=8)/\d=2/\s=7))(h:St K mp rows AL fr M):
  Hu o k 20 [ptr mp, .int .i64 z, .int .u8 d, .int .u8 s, .int .i64 n] M (St K mp (rows++ [ins (BL z d s n) 0]) AL fr):=by
 obtain⟨k,rfl⟩:∃k',k=k'+1:=⟨k - 1,by omega⟩
 obtain⟨M1,c1,h1⟩:=Kt (k:=k) hO (by omega) hl (La.load (n:=Gy n) hm) h
 refine⟨M1,CJ 19 (hO.off 20 (by decide) _ _) vY vZ n18 ?_ v5,h1⟩
 refine Eq.trans (nO ..) ?_
 refine step c1 ?_
 rfl
theorem MH{op d n:Int}{lp l:Nat}(hO:Gu o)(hk:4<=k)(hl:rows.length<=100000)(hm:(op=3/\d=8)\/(op=5/\d=2)\/(op=10/\d=2)\/(op=2/\d=2))(hlp:(lp,l)∈AL)(h:St K mp rows AL fr M):
  Hu o k 22 [ptr mp, .int .i64 op, .int .u8 d, .int .i32 n,ptr lp] M (St K mp (rows++ [ins (DO op d n) l]) AL fr):=by
 obtain⟨k,rfl⟩:∃k',k=k'+1:=⟨k - 1,by omega⟩
 obtain⟨M1,c1,h1⟩:=Po (k:=k) hO (by omega) hl (La.jif (n:=n) hm) hlp h
 refine⟨M1,CJ 18 (hO.off 22 (by decide) _ _) vf vg n20 ?_ vi,h1⟩
 refine Eq.trans (nP ..) ?_
 refine step c1 ?_
 rfl
theorem KD{lp l:Nat}(hO:Gu o)(hk:4<=k)(hl:rows.length<=100000)(hlp:(lp,l)∈AL)(h:St K mp rows AL fr M):
  Hu o k 44 [ptr mp,ptr lp] M (St K mp (rows++ [ins CC l]) AL fr):=by
 obtain⟨k,rfl⟩:∃k',k=k'+1:=⟨k - 1,by omega⟩
 obtain⟨M1,c1,h1⟩:=Po (k:=k) hO (by omega) hl La.goto hlp h
 refine⟨M1,CJ 9 (hO.off 44 (by decide) _ _) vy vz n44 ?_ wB,h1⟩
 refine Eq.trans (nQ ..) ?_
 refine step c1 ?_
 rfl
theorem Ur{v:Int}(hO:Gu o)(hk:4<=k)(hl:rows.length+1<=100000)(h:St K mp rows AL fr M):
  Hu o k 24 [ptr mp, .int .u32 v] M (St K mp (rows++Eg v) AL fr):=by
 obtain⟨k,rfl⟩:∃k',k=k'+1:=⟨k - 1,by omega⟩
 obtain⟨M1,c1,h1⟩:=Kt (k:=k) hO (by omega) (by omega) (La.low (n:=Kg v)) h
 obtain⟨M2,c2,h2⟩:=Kt (k:=k) hO (by omega) (by rw[List.length_append];exact hl) La.exit h1
 rw[List.append_assoc]at h2
 refine⟨M2,CJ 14 (hO.off 24 (by decide) _ _) vj vk n22 ?_ vm,h2⟩
 refine Eq.trans (nR ..) ?_
 refine step c1 ?_
 refine step c2 ?_
 rfl
theorem HA(hO:Gu o)(hk:5<=k)(hl:rows.length+2<=100000)(h:St K mp rows AL fr M):
  Hu o k 21 [ptr mp] M (St K mp (rows++A9) AL fr):=by
 obtain⟨k,rfl⟩:∃k',k=k'+1:=⟨k - 1,by omega⟩
 obtain⟨M1,c1,h1⟩:=Pm (k:=k) (op:=11) (d:=2) (n:=0) hO (by omega) (by omega) (by simp) h
 obtain⟨M2,c2,h2⟩:=Pm (k:=k) (op:=11) (d:=3) (n:=0) hO (by omega) (by rw[List.length_append];simp;omega) (by simp) h1
 obtain⟨M3,c3,h3⟩:=I6 (k:=k) (z:=4) (d:=8) (s:=6) (n:=0) hO (by omega) (by simp;omega) (by simp) h2
 rw[List.append_assoc,List.append_assoc]at h3
 refine⟨M3,CJ 8 (hO.off 21 (by decide) _ _) v7 v9 n19 ?_ vd,h3⟩
 refine Eq.trans (Z7 ..) ?_
 refine step c1 ?_
 refine step c2 ?_
 refine step c3 ?_
 rfl
theorem I8{n:Int}(h:0<=n)(h2:n<2147483648):IntKind.wrap .i32 n=n:=by
 simp[IntKind.wrap,IntKind.bits,IntKind.signed]
 omega
theorem TR{n:Int}:XX n=Kg (n % 4294967296):=by
 simp[XX,Kg,IntKind.wrap,IntKind.bits,IntKind.signed]
theorem Z8{n:Int}(h:0<=n)(h2:n<18446744073709551616):XX (Int.fdiv n 4294967296)=Kg (n / 4294967296):=by
 rw[Int.fdiv_eq_ediv_of_nonneg _ (by omega)]
 have:n / 4294967296 % 4294967296=n / 4294967296:=Int.emod_eq_of_lt (by omega) (by omega)
 rw[TR,this]
theorem VJ{op n:Int}{lp l:Nat}(hO:Gu o)(hk:6<=k)(hl:rows.length+3<=100000)(hm:op=10\/op=2)(hn:0<=n)(hn2:n<18446744073709551616)(hlp:(lp,l)∈AL)(h:St K mp rows AL fr M):
  Hu o k 43 [ptr mp, .int .i64 op, .int .u64 n,ptr lp] M (St K mp (rows++Di op n l) AL fr):=by
 obtain⟨k,rfl⟩:∃k',k=k'+1:=⟨k - 1,by omega⟩
 obtain⟨M0,c0,x0⟩:=hO.small n k M (by omega) h.top (by have:=h.lt h.glb;omega) (h.get h.glb)
 have h0:=h.ext x0
 by_cases hs:n<2147483648
 ·obtain⟨M1,c1,h1⟩:=MH (k:=k) (op:=op) (d:=2) (n:=n) hO (by omega) (by omega) (by rcases hm with rfl|rfl<;>simp) hlp h0;refine⟨M1,CJ 25 (hO.off 43 (by decide) _ _) rj rk xq ?_ rm,by rw[Di,if_pos hs];exact h1⟩;refine Eq.trans (Z9 ..) ?_;refine step c0 ?_;rw[HS,decide_eq_true hs,AH,I8 hn hs];refine step c1 ?_;rfl
 ·obtain⟨M1,c1,h1⟩:=RD (k:=k - 2) (d:=3) (n:=n) (hO.off 35 (by decide)) (hO.off 42 (by decide)) (by omega) h0 (hO.makes (by omega) La.const);obtain⟨k',rfl⟩:∃k',k=k'+2:=⟨k - 2,by omega⟩;obtain⟨M2,c2,h2⟩:=Po (k:=k'+2) hO (by omega) (by simp;omega) (La.jifR hm) hlp h1;refine⟨M2,CJ 25 (hO.off 43 (by decide) _ _) rj rk xq ?_ rm,?_⟩
  ·refine Eq.trans (Z9 ..) ?_;refine step c0 ?_;rw[HS,decide_eq_false hs,BH];refine step c1 ?_;refine step c2 ?_;rfl
  ·rw[Di,if_neg hs];rw[List.append_assoc,TR,Z8 hn hn2]at h2;exact h2
theorem Pk{n:Int}{lp l a:Nat}(hO:Gu o)(hk:100000+20<=k)(hl:rows.length+3<=100000)(hlp:(lp,l)∈AL)(ha:fr a)(h:St K mp rows AL fr M):
  Hu o k 38 [ptr mp, .int .i64 n,ptr lp] M (St K mp (rows++Cr a n l) AL (λj=>fr j/\j≠a)):=by
 obtain⟨k,rfl⟩:∃k',k=k'+1:=⟨k - 1,by omega⟩
 have h0:=h.label ha
 obtain⟨M1,c1,h1⟩:=MH (k:=k) (op:=3) (d:=8) (n:=Kg n) hO (by omega) (by omega) (by simp) (List.mem_cons_self ..) h0
 obtain⟨M2,c2,h2⟩:=KD (k:=k) hO (by omega) (by simp;omega) (List.mem_cons_of_mem _ hlp) h1
 have hb:=h2.box (.cells true [ptr M.size])
 obtain⟨M3,c3,h3⟩:=MK (k:=k) (hO.off 25 (by decide)) (by omega) (by simp;omega) hb.1 (BM ..)
 have h3:=h3.weak h.glb hb.2
 have hb2:=h3.box (.cells true [ptr M.size])
 obtain⟨M4,c4,h4⟩:=Kr (k:=k) (ps:= [(M.size,a)]) (hO.off 26 (by decide)) (by simp;omega) (by omega) (by simp) (BM ..) hb2.1
 have h4:=h4.weak h.glb hb2.2
 rw[List.append_assoc,List.append_assoc]at h4
 refine⟨M4,CJ 20 (hO.off 38 (by decide) _ _) vt vu n38 ?_ vw,h4⟩
 refine Eq.trans (nS ..) ?_
 refine step c1 ?_
 refine step c2 ?_
 refine step c3 ?_
 refine step c4 ?_
 rfl
end
set_option maxHeartbeats 4000000
variable{α:Type}(x:Nat->Value)(cf:Y.CF α)(L:Y.LK α)(k:Nat)(m:Mem)
noncomputable def Hl:Code:=D3 [0,9] (AM Tryz.f18)
noncomputable def Us:List Oper:=CA 0 (AM Tryz.f18)
noncomputable def Yw:List Oper:=CA 9 (AM Tryz.f18)
noncomputable def Qo:Code:=D3 [5,8] (BK Tryz.f13 0)
noncomputable def O3:List Oper:=CA 5 (AM Tryz.f13)
noncomputable def Um:List Oper:=CA 8 (AM Tryz.f13)
noncomputable def Wq:Code:=D3 [10] (BK Tryz.f13 1)
noncomputable def Ki:List Oper:=CA 10 (AM Tryz.f13)
theorem Yx(g:Bool)(ki p s ma lo hi:Int)(q:Value->Mem->Option α):Y.codeF Hl Tryz.prog kp 1 (Y.cfT Tryz.prog cf) L 93 k (AB 93 (Bv [.agg ⟨[.bool g,.int .i64 ki,.int .i64 p,.int .i64 s,.int .u64 ma,.int .u64 lo,.int .u64 hi]⟩])) m (Y.retF Tryz.prog Tryz.f18 q)=
 (L (λt m q=>Y.codeF (Y.loopC Hl 0) Tryz.prog kp 1 (Y.cfT Tryz.prog cf) L 93 k t m q) (Y.loopC Hl 0) k (AB 93 (up Go.DI.x0 [(0,.agg ⟨[.bool g,.int .i64 ki,.int .i64 p,.int .i64 s,.int .u64 ma,.int .u64 lo,.int .u64 hi]⟩)])) m (Y.kont Tryz.prog kp 1 (Y.cfT Tryz.prog cf) L 93 k Hl 0 (Y.retF Tryz.prog Tryz.f18 q))):=by kernel_rfl
theorem mN(g:Bool)(ki p s ma lo hi:Int)(q:AF->Mem->Option α):Y.opsF (Us) Tryz.prog kp 1 (Y.cfT Tryz.prog cf) 93 Us (AB 93 (up x [(0,.agg ⟨[.bool g,.int .i64 ki,.int .i64 p,.int .i64 s,.int .u64 ma,.int .u64 lo,.int .u64 hi]⟩)])) m q=
 (q (AB 93 (up (up x [(0,.agg ⟨[.bool g,.int .i64 ki,.int .i64 p,.int .i64 s,.int .u64 ma,.int .u64 lo,.int .u64 hi]⟩)]) [(1,.pointer (some ⟨Mem.size m,0,none⟩)),(2,.bool false)])) (Mem.push m (.cells true [.bool g,.int .i64 ki,.int .i64 p,.int .i64 s,.int .u64 ma,.int .u64 lo,.int .u64 hi]))):=by kernel_rfl
theorem Mg(tb:Nat)(bb:Bool)(q:Value->Mem->Option α):Y.kont Tryz.prog kp 1 (Y.cfT Tryz.prog cf) L 93 k Hl 0 (Y.retF Tryz.prog Tryz.f18 q) .normal (AB 93 (up x [(1,.pointer (some ⟨tb,0,none⟩)),(2,.bool bb)])) m=
 (Y.cellsOf (Mem.get m tb) (λ_ Ah=>Option.elim (Y.nthL Ah 5) none (λAi=>Y.asInt Ai (λAj F=>cond (Y.kEq .u64 Aj) (Y.cellsOf (Mem.get m tb) (λ_ Ak=>Option.elim (Y.nthL Ak 6) none (λAl=>Y.asInt Al (λAm G=>cond (Y.kEq .u64 Am) (cond (Y.ltF G F) (q (.bool false) m) (Y.cellsOf (Mem.get m tb) (λ_ An=>Option.elim (Y.nthL An 1) none (λAo=>Y.asInt Ao (λAp H=>cond (Y.kEq .i64 Ap) (cond (Y.eqF H 1) (Y.cellsOf (Mem.get m tb) (λ_ Aa=>Option.elim (Y.nthL Aa 2) none (λAb=>Y.asInt Ab (λAc D=>cond (Y.kEq .i64 Ac) (cond (Y.eqF D 0) (Y.cellsOf (Mem.get m tb) (λ_ T=>Option.elim (Y.nthL T 3) none (λU=>Y.asInt U (λV C=>cond (Y.kEq .i64 V) (cond (Y.eqF C 0) (Y.cellsOf (Mem.get m tb) (λ_ I=>Option.elim (Y.nthL I 4) none (λJ=>Y.asInt J (λN A=>cond (Y.kEq .u64 N) (cond (Y.eqF A 0) (Y.cellsOf (Mem.get m tb) (λ_ O=>Option.elim (Y.nthL O 6) none (λQ=>Y.asInt Q (λR B=>cond (Y.kEq .u64 R) (cond (Y.ltF B 4294967296) (q (.bool true) m) (q (.bool false) m)) none) none))) (q (.bool false) m)) none) none))) (q (.bool false) m)) none) none))) (q (.bool false) m)) none) none))) (Y.cellsOf (Mem.get m tb) (λ_ Aa=>Option.elim (Y.nthL Aa 1) none (λAb=>Y.asInt Ab (λAc D=>cond (Y.kEq .i64 Ac) (cond (Y.eqF D 2) (Y.cellsOf (Mem.get m tb) (λ_ T=>Option.elim (Y.nthL T 2) none (λU=>Y.asInt U (λV C=>cond (Y.kEq .i64 V) (cond (Y.eqF C 0) (Y.cellsOf (Mem.get m tb) (λ_ I=>Option.elim (Y.nthL I 3) none (λJ=>Y.asInt J (λN A=>cond (Y.kEq .i64 N) (cond (Y.eqF A 0) (Y.cellsOf (Mem.get m tb) (λ_ O=>Option.elim (Y.nthL O 4) none (λQ=>Y.asInt Q (λR B=>cond (Y.kEq .u64 R) (cond (Y.eqF B 0) (Y.cellsOf (Mem.get m tb) (λ_ W=>Option.elim (Y.nthL W 6) none (λX=>Y.asInt X (λZ E=>cond (Y.kEq .u64 Z) (cond (Y.ltF E 4294967296) (q (.bool true) m) (q (.bool false) m)) none) none))) (q (.bool false) m)) none) none))) (q (.bool false) m)) none) none))) (q (.bool false) m)) none) none))) (Y.cellsOf (Mem.get m tb) (λ_ T=>Option.elim (Y.nthL T 1) none (λU=>Y.asInt U (λV C=>cond (Y.kEq .i64 V) (cond (cond (Y.eqF C 3) false true) (Y.cellsOf (Mem.get m tb) (λ_ I=>Option.elim (Y.nthL I 1) none (λJ=>Y.asInt J (λN A=>cond (Y.kEq .i64 N) (cond (cond (Y.eqF A 4) false true) (q (.bool false) m) (Y.cellsOf (Mem.get m tb) (λ_ O=>Option.elim (Y.nthL O 3) none (λQ=>Y.asInt Q (λR B=>cond (Y.kEq .i64 R) (cond (cond (Y.eqF B 1) false true) (Y.cellsOf (Mem.get m tb) (λ_ W=>Option.elim (Y.nthL W 3) none (λX=>Y.asInt X (λZ E=>cond (Y.kEq .i64 Z) (cond (cond (Y.eqF E 2) false true) (Y.cellsOf (Mem.get m tb) (λ_ Ad=>Option.elim (Y.nthL Ad 3) none (λAe=>Y.asInt Ae (λAf S=>cond (Y.kEq .i64 Af) (cond (cond (Y.eqF S 4) false true) (Y.cellsOf (Mem.get m tb) (λ_ Aq=>Option.elim (Y.nthL Aq 3) none (λAr=>Y.asInt Ar (λAs Ag=>cond (Y.kEq .i64 As) (cond (cond (Y.eqF Ag 8) false true) (q (.bool false) m) (L (λt m q=>Y.codeF (Y.loopC Hl 1) Tryz.prog kp 1 (Y.cfT Tryz.prog cf) L 93 k t m q) (Y.loopC Hl 1) k (AB 93 (up (up x [(16,.bool false),(48,.bool true),(8,.bool false),(40,.bool true),(56,.int .i64 S),(4,.pointer (some ⟨tb,5,none⟩)),(36,.bool false),(52,.bool true),(12,.bool false),(44,.bool false),(60,.pointer (some ⟨tb,3,none⟩)),(50,.pointer (some ⟨tb,3,none⟩)),(10,.pointer (some ⟨tb,1,none⟩)),(42,.int .i64 A),(58,.bool true),(6,.pointer (some ⟨tb,6,none⟩)),(38,.int .i64 C),(54,.bool true),(14,.pointer (some ⟨tb,1,none⟩)),(46,.pointer (some ⟨tb,3,none⟩)),(62,.bool false),(17,.bool false),(49,.bool true),(9,.bool false),(41,.pointer (some ⟨tb,1,none⟩)),(57,.bool true),(5,.int .u64 F),(37,.pointer (some ⟨tb,1,none⟩)),(53,.bool true),(13,.bool false),(45,.bool false),(61,.int .i64 Ag),(3,.bool false),(51,.int .i64 E),(11,.int .i64 H),(43,.bool false),(59,.bool true),(7,.int .u64 G),(39,.bool true),(55,.pointer (some ⟨tb,3,none⟩)),(15,.int .i64 D),(47,.int .i64 B),(63,.bool false)]) [(1,.pointer (some ⟨tb,0,none⟩)),(2,.bool bb)])) m (Y.kont Tryz.prog kp 1 (Y.cfT Tryz.prog cf) L 93 k Hl 1 (Y.retF Tryz.prog Tryz.f18 q)))) none) none))) (L (λt m q=>Y.codeF (Y.loopC Hl 1) Tryz.prog kp 1 (Y.cfT Tryz.prog cf) L 93 k t m q) (Y.loopC Hl 1) k (AB 93 (up (up x [(16,.bool false),(48,.bool true),(8,.bool false),(40,.bool true),(56,.int .i64 S),(4,.pointer (some ⟨tb,5,none⟩)),(36,.bool false),(52,.bool true),(12,.bool false),(44,.bool false),(60,.tuple ⟨[]⟩),(50,.pointer (some ⟨tb,3,none⟩)),(10,.pointer (some ⟨tb,1,none⟩)),(42,.int .i64 A),(58,.bool false),(6,.pointer (some ⟨tb,6,none⟩)),(38,.int .i64 C),(54,.bool true),(14,.pointer (some ⟨tb,1,none⟩)),(46,.pointer (some ⟨tb,3,none⟩)),(62,.tuple ⟨[]⟩),(17,.bool false),(49,.bool true),(9,.bool false),(41,.pointer (some ⟨tb,1,none⟩)),(57,.bool false),(5,.int .u64 F),(37,.pointer (some ⟨tb,1,none⟩)),(53,.bool true),(13,.bool false),(45,.bool false),(61,.tuple ⟨[]⟩),(3,.bool false),(51,.int .i64 E),(11,.int .i64 H),(43,.bool false),(59,.bool false),(7,.int .u64 G),(39,.bool true),(55,.pointer (some ⟨tb,3,none⟩)),(15,.int .i64 D),(47,.int .i64 B),(63,.bool false)]) [(1,.pointer (some ⟨tb,0,none⟩)),(2,.bool bb)])) m (Y.kont Tryz.prog kp 1 (Y.cfT Tryz.prog cf) L 93 k Hl 1 (Y.retF Tryz.prog Tryz.f18 q)))) none) none))) (L (λt m q=>Y.codeF (Y.loopC Hl 1) Tryz.prog kp 1 (Y.cfT Tryz.prog cf) L 93 k t m q) (Y.loopC Hl 1) k (AB 93 (up (up x [(16,.bool false),(48,.bool true),(8,.bool false),(40,.bool true),(56,.tuple ⟨[]⟩),(4,.pointer (some ⟨tb,5,none⟩)),(36,.bool false),(52,.bool false),(12,.bool false),(44,.bool false),(60,.tuple ⟨[]⟩),(50,.pointer (some ⟨tb,3,none⟩)),(10,.pointer (some ⟨tb,1,none⟩)),(42,.int .i64 A),(58,.bool false),(6,.pointer (some ⟨tb,6,none⟩)),(38,.int .i64 C),(54,.bool false),(14,.pointer (some ⟨tb,1,none⟩)),(46,.pointer (some ⟨tb,3,none⟩)),(62,.tuple ⟨[]⟩),(17,.bool false),(49,.bool true),(9,.bool false),(41,.pointer (some ⟨tb,1,none⟩)),(57,.tuple ⟨[]⟩),(5,.int .u64 F),(37,.pointer (some ⟨tb,1,none⟩)),(53,.bool false),(13,.bool false),(45,.bool false),(61,.tuple ⟨[]⟩),(3,.bool false),(51,.int .i64 E),(11,.int .i64 H),(43,.bool false),(59,.bool false),(7,.int .u64 G),(39,.bool true),(55,.tuple ⟨[]⟩),(15,.int .i64 D),(47,.int .i64 B),(63,.bool false)]) [(1,.pointer (some ⟨tb,0,none⟩)),(2,.bool bb)])) m (Y.kont Tryz.prog kp 1 (Y.cfT Tryz.prog cf) L 93 k Hl 1 (Y.retF Tryz.prog Tryz.f18 q)))) none) none))) (L (λt m q=>Y.codeF (Y.loopC Hl 1) Tryz.prog kp 1 (Y.cfT Tryz.prog cf) L 93 k t m q) (Y.loopC Hl 1) k (AB 93 (up (up x [(16,.bool false),(48,.bool false),(8,.bool false),(40,.bool true),(56,.tuple ⟨[]⟩),(4,.pointer (some ⟨tb,5,none⟩)),(36,.bool false),(52,.tuple ⟨[]⟩),(12,.bool false),(44,.bool false),(60,.tuple ⟨[]⟩),(50,.tuple ⟨[]⟩),(10,.pointer (some ⟨tb,1,none⟩)),(42,.int .i64 A),(58,.bool false),(6,.pointer (some ⟨tb,6,none⟩)),(38,.int .i64 C),(54,.bool false),(14,.pointer (some ⟨tb,1,none⟩)),(46,.pointer (some ⟨tb,3,none⟩)),(62,.tuple ⟨[]⟩),(17,.bool false),(49,.bool false),(9,.bool false),(41,.pointer (some ⟨tb,1,none⟩)),(57,.tuple ⟨[]⟩),(5,.int .u64 F),(37,.pointer (some ⟨tb,1,none⟩)),(53,.bool false),(13,.bool false),(45,.bool false),(61,.tuple ⟨[]⟩),(3,.bool false),(51,.tuple ⟨[]⟩),(11,.int .i64 H),(43,.bool false),(59,.bool false),(7,.int .u64 G),(39,.bool true),(55,.tuple ⟨[]⟩),(15,.int .i64 D),(47,.int .i64 B),(63,.bool false)]) [(1,.pointer (some ⟨tb,0,none⟩)),(2,.bool bb)])) m (Y.kont Tryz.prog kp 1 (Y.cfT Tryz.prog cf) L 93 k Hl 1 (Y.retF Tryz.prog Tryz.f18 q)))) none) none)))) none) none))) (Y.cellsOf (Mem.get m tb) (λ_ I=>Option.elim (Y.nthL I 3) none (λJ=>Y.asInt J (λN A=>cond (Y.kEq .i64 N) (cond (cond (Y.eqF A 1) false true) (Y.cellsOf (Mem.get m tb) (λ_ O=>Option.elim (Y.nthL O 3) none (λQ=>Y.asInt Q (λR B=>cond (Y.kEq .i64 R) (cond (cond (Y.eqF B 2) false true) (Y.cellsOf (Mem.get m tb) (λ_ W=>Option.elim (Y.nthL W 3) none (λX=>Y.asInt X (λZ E=>cond (Y.kEq .i64 Z) (cond (cond (Y.eqF E 4) false true) (Y.cellsOf (Mem.get m tb) (λ_ Ad=>Option.elim (Y.nthL Ad 3) none (λAe=>Y.asInt Ae (λAf S=>cond (Y.kEq .i64 Af) (cond (cond (Y.eqF S 8) false true) (q (.bool false) m) (L (λt m q=>Y.codeF (Y.loopC Hl 1) Tryz.prog kp 1 (Y.cfT Tryz.prog cf) L 93 k t m q) (Y.loopC Hl 1) k (AB 93 (up (up x [(16,.bool false),(48,.bool true),(8,.bool false),(40,.bool false),(56,.int .i64 E),(4,.pointer (some ⟨tb,5,none⟩)),(36,.bool false),(52,.bool true),(12,.bool false),(44,.bool false),(60,.pointer (some ⟨tb,3,none⟩)),(50,.pointer (some ⟨tb,3,none⟩)),(10,.pointer (some ⟨tb,1,none⟩)),(42,.tuple ⟨[]⟩),(58,.bool true),(6,.pointer (some ⟨tb,6,none⟩)),(38,.int .i64 C),(54,.bool true),(14,.pointer (some ⟨tb,1,none⟩)),(46,.pointer (some ⟨tb,3,none⟩)),(62,.bool false),(17,.bool false),(49,.bool true),(9,.bool false),(41,.tuple ⟨[]⟩),(57,.bool true),(5,.int .u64 F),(37,.pointer (some ⟨tb,1,none⟩)),(53,.bool true),(13,.bool false),(45,.bool false),(61,.int .i64 S),(3,.bool false),(51,.int .i64 B),(11,.int .i64 H),(43,.tuple ⟨[]⟩),(59,.bool true),(7,.int .u64 G),(39,.bool false),(55,.pointer (some ⟨tb,3,none⟩)),(15,.int .i64 D),(47,.int .i64 A),(63,.bool false)]) [(1,.pointer (some ⟨tb,0,none⟩)),(2,.bool bb)])) m (Y.kont Tryz.prog kp 1 (Y.cfT Tryz.prog cf) L 93 k Hl 1 (Y.retF Tryz.prog Tryz.f18 q)))) none) none))) (L (λt m q=>Y.codeF (Y.loopC Hl 1) Tryz.prog kp 1 (Y.cfT Tryz.prog cf) L 93 k t m q) (Y.loopC Hl 1) k (AB 93 (up (up x [(16,.bool false),(48,.bool true),(8,.bool false),(40,.bool false),(56,.int .i64 E),(4,.pointer (some ⟨tb,5,none⟩)),(36,.bool false),(52,.bool true),(12,.bool false),(44,.bool false),(60,.tuple ⟨[]⟩),(50,.pointer (some ⟨tb,3,none⟩)),(10,.pointer (some ⟨tb,1,none⟩)),(42,.tuple ⟨[]⟩),(58,.bool false),(6,.pointer (some ⟨tb,6,none⟩)),(38,.int .i64 C),(54,.bool true),(14,.pointer (some ⟨tb,1,none⟩)),(46,.pointer (some ⟨tb,3,none⟩)),(62,.tuple ⟨[]⟩),(17,.bool false),(49,.bool true),(9,.bool false),(41,.tuple ⟨[]⟩),(57,.bool false),(5,.int .u64 F),(37,.pointer (some ⟨tb,1,none⟩)),(53,.bool true),(13,.bool false),(45,.bool false),(61,.tuple ⟨[]⟩),(3,.bool false),(51,.int .i64 B),(11,.int .i64 H),(43,.tuple ⟨[]⟩),(59,.bool false),(7,.int .u64 G),(39,.bool false),(55,.pointer (some ⟨tb,3,none⟩)),(15,.int .i64 D),(47,.int .i64 A),(63,.bool false)]) [(1,.pointer (some ⟨tb,0,none⟩)),(2,.bool bb)])) m (Y.kont Tryz.prog kp 1 (Y.cfT Tryz.prog cf) L 93 k Hl 1 (Y.retF Tryz.prog Tryz.f18 q)))) none) none))) (L (λt m q=>Y.codeF (Y.loopC Hl 1) Tryz.prog kp 1 (Y.cfT Tryz.prog cf) L 93 k t m q) (Y.loopC Hl 1) k (AB 93 (up (up x [(16,.bool false),(48,.bool true),(8,.bool false),(40,.bool false),(56,.tuple ⟨[]⟩),(4,.pointer (some ⟨tb,5,none⟩)),(36,.bool false),(52,.bool false),(12,.bool false),(44,.bool false),(60,.tuple ⟨[]⟩),(50,.pointer (some ⟨tb,3,none⟩)),(10,.pointer (some ⟨tb,1,none⟩)),(42,.tuple ⟨[]⟩),(58,.bool false),(6,.pointer (some ⟨tb,6,none⟩)),(38,.int .i64 C),(54,.bool false),(14,.pointer (some ⟨tb,1,none⟩)),(46,.pointer (some ⟨tb,3,none⟩)),(62,.tuple ⟨[]⟩),(17,.bool false),(49,.bool true),(9,.bool false),(41,.tuple ⟨[]⟩),(57,.tuple ⟨[]⟩),(5,.int .u64 F),(37,.pointer (some ⟨tb,1,none⟩)),(53,.bool false),(13,.bool false),(45,.bool false),(61,.tuple ⟨[]⟩),(3,.bool false),(51,.int .i64 B),(11,.int .i64 H),(43,.tuple ⟨[]⟩),(59,.bool false),(7,.int .u64 G),(39,.bool false),(55,.tuple ⟨[]⟩),(15,.int .i64 D),(47,.int .i64 A),(63,.bool false)]) [(1,.pointer (some ⟨tb,0,none⟩)),(2,.bool bb)])) m (Y.kont Tryz.prog kp 1 (Y.cfT Tryz.prog cf) L 93 k Hl 1 (Y.retF Tryz.prog Tryz.f18 q)))) none) none))) (L (λt m q=>Y.codeF (Y.loopC Hl 1) Tryz.prog kp 1 (Y.cfT Tryz.prog cf) L 93 k t m q) (Y.loopC Hl 1) k (AB 93 (up (up x [(16,.bool false),(48,.bool false),(8,.bool false),(40,.bool false),(56,.tuple ⟨[]⟩),(4,.pointer (some ⟨tb,5,none⟩)),(36,.bool false),(52,.tuple ⟨[]⟩),(12,.bool false),(44,.bool false),(60,.tuple ⟨[]⟩),(50,.tuple ⟨[]⟩),(10,.pointer (some ⟨tb,1,none⟩)),(42,.tuple ⟨[]⟩),(58,.bool false),(6,.pointer (some ⟨tb,6,none⟩)),(38,.int .i64 C),(54,.bool false),(14,.pointer (some ⟨tb,1,none⟩)),(46,.pointer (some ⟨tb,3,none⟩)),(62,.tuple ⟨[]⟩),(17,.bool false),(49,.bool false),(9,.bool false),(41,.tuple ⟨[]⟩),(57,.tuple ⟨[]⟩),(5,.int .u64 F),(37,.pointer (some ⟨tb,1,none⟩)),(53,.bool false),(13,.bool false),(45,.bool false),(61,.tuple ⟨[]⟩),(3,.bool false),(51,.tuple ⟨[]⟩),(11,.int .i64 H),(43,.tuple ⟨[]⟩),(59,.bool false),(7,.int .u64 G),(39,.bool false),(55,.tuple ⟨[]⟩),(15,.int .i64 D),(47,.int .i64 A),(63,.bool false)]) [(1,.pointer (some ⟨tb,0,none⟩)),(2,.bool bb)])) m (Y.kont Tryz.prog kp 1 (Y.cfT Tryz.prog cf) L 93 k Hl 1 (Y.retF Tryz.prog Tryz.f18 q)))) none) none)))) none) none)))) none) none)))) none) none)))) none) none))) none) none))):=by kernel_rfl
theorem Kk(tb:Nat)(bb:Bool)(q:AF->Mem->Option α):Y.drawF Tryz.prog kp 1 (Y.cfT Tryz.prog cf) 93 Yw (AB 93 (up x [(1,.pointer (some ⟨tb,0,none⟩)),(2,.bool bb)])) m q=
 (Y.cellsOf (Mem.get m tb) (λ_ Ab=>Option.elim (Y.nthL Ab 2) none (λo9=>Y.asInt o9 (λAc A=>cond (Y.kEq .i64 Ac) (cond (cond (Y.ltF A 0) false true) (Y.cellsOf (Mem.get m tb) (λ_ Ad=>Option.elim (Y.nthL Ad 2) none (λAe=>Y.asInt Ae (λAf E=>cond (Y.kEq .i64 Af) (cond (cond (Y.ltF 255 E) false true) (Y.cellsOf (Mem.get m tb) (λ_ Ag=>Option.elim (Y.nthL Ag 4) none (λAh=>Y.asInt Ah (λAi F=>cond (Y.kEq .u64 Ai) (cond (cond (Y.ltF F 1) false true) (Y.cellsOf (Mem.get m tb) (λ_ Aj=>Option.elim (Y.nthL Aj 4) none (λAk=>Y.asInt Ak (λAl B=>cond (Y.kEq .u64 Al) (Y.cellsOf (Mem.get m tb) (λ_ Am=>Option.elim (Y.nthL Am 3) none (λAn=>Y.asInt An (λAo G=>cond (Y.kEq .i64 Ao) (cf 34 [.int .i64 G] m (λAp C=>Y.asInt Ap (λAq H=>cond (Y.kEq .u64 Aq) (cond (cond (Y.ltF H B) false true) (Y.cellsOf (Mem.get C tb) (λ_ J=>Option.elim (Y.nthL J 6) none (λN=>Y.asInt N (λO D=>cond (Y.kEq .u64 O) (Y.cellsOf (Mem.get C tb) (λ_ Ar=>Option.elim (Y.nthL Ar 3) none (λAs=>Y.asInt As (λAt Q=>cond (Y.kEq .i64 At) (cf 34 [.int .i64 Q] C (λAu I=>Y.asInt Au (λAv R=>cond (Y.kEq .u64 Av) (cond (cond (Y.ltF R D) false true) (Y.cellsOf (Mem.get C tb) (λ_ S=>Option.elim (Y.nthL S 4) none (λT=>Y.asInt T (λU V=>cond (Y.kEq .u64 U) (cond (Y.eqF V B) (Y.cellsOf (Mem.get I tb) (λ_ W=>Option.elim (Y.nthL W 6) none (λX=>Y.asInt X (λZ Aa=>cond (Y.kEq .u64 Z) (cond (Y.eqF Aa D) (q (AB 93 (up (up x [(64,.pointer (some ⟨tb,2,none⟩)),(80,.pointer (some ⟨tb,3,none⟩)),(72,.bool true),(88,.pointer (some ⟨tb,3,none⟩)),(68,.pointer (some ⟨tb,2,none⟩)),(84,.bool true),(76,.bool true),(92,.bool true),(66,.bool true),(82,.int .u64 H),(74,.int .u64 F),(90,.int .u64 R),(70,.bool true),(86,.pointer (some ⟨tb,6,none⟩)),(78,.pointer (some ⟨tb,4,none⟩)),(65,.int .i64 A),(81,.int .i64 G),(73,.pointer (some ⟨tb,4,none⟩)),(89,.int .i64 Q),(69,.int .i64 E),(85,.bool true),(77,.bool true),(67,.bool true),(83,.bool true),(75,.bool true),(91,.bool true),(71,.bool true),(87,.int .u64 D),(79,.int .u64 B)]) [(1,.pointer (some ⟨tb,0,none⟩)),(2,.bool true)])) I) none) none) none))) none) none) none))) (Y.cellsOf (Mem.get C tb) (λ_ S=>Option.elim (Y.nthL S 4) none (λT=>Y.asInt T (λU V=>cond (Y.kEq .u64 U) (cond (Y.eqF V B) (Y.cellsOf (Mem.get I tb) (λ_ W=>Option.elim (Y.nthL W 6) none (λX=>Y.asInt X (λZ Aa=>cond (Y.kEq .u64 Z) (cond (Y.eqF Aa D) (q (AB 93 (up (up x [(64,.pointer (some ⟨tb,2,none⟩)),(80,.pointer (some ⟨tb,3,none⟩)),(72,.bool true),(88,.pointer (some ⟨tb,3,none⟩)),(68,.pointer (some ⟨tb,2,none⟩)),(84,.bool true),(76,.bool true),(92,.bool false),(66,.bool true),(82,.int .u64 H),(74,.int .u64 F),(90,.int .u64 R),(70,.bool true),(86,.pointer (some ⟨tb,6,none⟩)),(78,.pointer (some ⟨tb,4,none⟩)),(65,.int .i64 A),(81,.int .i64 G),(73,.pointer (some ⟨tb,4,none⟩)),(89,.int .i64 Q),(69,.int .i64 E),(85,.bool true),(77,.bool true),(67,.bool true),(83,.bool true),(75,.bool true),(91,.bool false),(71,.bool true),(87,.int .u64 D),(79,.int .u64 B)]) [(1,.pointer (some ⟨tb,0,none⟩)),(2,.bool false)])) I) none) none) none))) none) none) none)))) none) none)) none) none))) none) none))) (Y.cellsOf (Mem.get C tb) (λ_ J=>Option.elim (Y.nthL J 4) none (λN=>Y.asInt N (λO D=>cond (Y.kEq .u64 O) (cond (Y.eqF D B) (q (AB 93 (up (up x [(64,.pointer (some ⟨tb,2,none⟩)),(80,.pointer (some ⟨tb,3,none⟩)),(72,.bool true),(88,.tuple ⟨[]⟩),(68,.pointer (some ⟨tb,2,none⟩)),(84,.bool false),(76,.bool true),(92,.bool false),(66,.bool true),(82,.int .u64 H),(74,.int .u64 F),(90,.tuple ⟨[]⟩),(70,.bool true),(86,.tuple ⟨[]⟩),(78,.pointer (some ⟨tb,4,none⟩)),(65,.int .i64 A),(81,.int .i64 G),(73,.pointer (some ⟨tb,4,none⟩)),(89,.tuple ⟨[]⟩),(69,.int .i64 E),(85,.bool false),(77,.bool true),(67,.bool true),(83,.bool false),(75,.bool true),(91,.tuple ⟨[]⟩),(71,.bool true),(87,.tuple ⟨[]⟩),(79,.int .u64 B)]) [(1,.pointer (some ⟨tb,0,none⟩)),(2,.bool false)])) C) none) none) none)))) none) none)) none) none))) none) none))) (q (AB 93 (up (up x [(64,.pointer (some ⟨tb,2,none⟩)),(80,.tuple ⟨[]⟩),(72,.bool true),(88,.tuple ⟨[]⟩),(68,.pointer (some ⟨tb,2,none⟩)),(84,.bool false),(76,.bool false),(92,.bool false),(66,.bool true),(82,.tuple ⟨[]⟩),(74,.int .u64 F),(90,.tuple ⟨[]⟩),(70,.bool true),(86,.tuple ⟨[]⟩),(78,.tuple ⟨[]⟩),(65,.int .i64 A),(81,.tuple ⟨[]⟩),(73,.pointer (some ⟨tb,4,none⟩)),(89,.tuple ⟨[]⟩),(69,.int .i64 E),(85,.bool false),(77,.bool false),(67,.bool true),(83,.tuple ⟨[]⟩),(75,.bool false),(91,.tuple ⟨[]⟩),(71,.bool true),(87,.tuple ⟨[]⟩),(79,.tuple ⟨[]⟩)]) [(1,.pointer (some ⟨tb,0,none⟩)),(2,.bool false)])) m)) none) none))) (q (AB 93 (up (up x [(64,.pointer (some ⟨tb,2,none⟩)),(80,.tuple ⟨[]⟩),(72,.bool false),(88,.tuple ⟨[]⟩),(68,.pointer (some ⟨tb,2,none⟩)),(84,.bool false),(76,.bool false),(92,.bool false),(66,.bool true),(82,.tuple ⟨[]⟩),(74,.tuple ⟨[]⟩),(90,.tuple ⟨[]⟩),(70,.bool false),(86,.tuple ⟨[]⟩),(78,.tuple ⟨[]⟩),(65,.int .i64 A),(81,.tuple ⟨[]⟩),(73,.tuple ⟨[]⟩),(89,.tuple ⟨[]⟩),(69,.int .i64 E),(85,.bool false),(77,.bool false),(67,.bool true),(83,.tuple ⟨[]⟩),(75,.tuple ⟨[]⟩),(91,.tuple ⟨[]⟩),(71,.bool false),(87,.tuple ⟨[]⟩),(79,.tuple ⟨[]⟩)]) [(1,.pointer (some ⟨tb,0,none⟩)),(2,.bool false)])) m)) none) none))) (q (AB 93 (up (up x [(64,.pointer (some ⟨tb,2,none⟩)),(80,.tuple ⟨[]⟩),(72,.bool false),(88,.tuple ⟨[]⟩),(68,.tuple ⟨[]⟩),(84,.bool false),(76,.bool false),(92,.bool false),(66,.bool false),(82,.tuple ⟨[]⟩),(74,.tuple ⟨[]⟩),(90,.tuple ⟨[]⟩),(70,.tuple ⟨[]⟩),(86,.tuple ⟨[]⟩),(78,.tuple ⟨[]⟩),(65,.int .i64 A),(81,.tuple ⟨[]⟩),(73,.tuple ⟨[]⟩),(89,.tuple ⟨[]⟩),(69,.tuple ⟨[]⟩),(85,.bool false),(77,.bool false),(67,.bool false),(83,.tuple ⟨[]⟩),(75,.tuple ⟨[]⟩),(91,.tuple ⟨[]⟩),(71,.bool false),(87,.tuple ⟨[]⟩),(79,.tuple ⟨[]⟩)]) [(1,.pointer (some ⟨tb,0,none⟩)),(2,.bool false)])) m)) none) none))):=by kernel_rfl
theorem Km(tb:Nat)(bb:Bool)(q:Value->Mem->Option α):Y.kont Tryz.prog kp 1 (Y.cfT Tryz.prog cf) L 93 k Hl 1 (Y.retF Tryz.prog Tryz.f18 q) .normal (AB 93 (up x [(1,.pointer (some ⟨tb,0,none⟩)),(2,.bool bb)])) m=
 (q (.bool bb) m):=by kernel_rfl
theorem Qp(ra:Option Addr)(rn rc:Nat)(q:Value->Mem->Option α):Y.codeF (AM Tryz.f13) Tryz.prog kp 1 (Y.cfT Tryz.prog cf) L 36 k (AB 36 (Bv [.slice ra rn rc])) m (Y.retF Tryz.prog Tryz.f13 q)=
 (cond (Y.ltF 32 (Int.ofNat rn)) (q (.tuple ⟨[.int .i64 0,.int .i64 3]⟩) m) (L (λt m q=>Y.codeF (Y.loopC (AM Tryz.f13) 0) Tryz.prog kp 1 (Y.cfT Tryz.prog cf) L 36 k t m q) (Y.loopC (AM Tryz.f13) 0) k (AB 36 (up (up Go.DI.x0 [(0,.slice ra rn rc),(8,.slice ra rn rc),(2,.int .i64 0),(10,.bool false),(9,.int .i64 (Int.ofNat rn)),(3,.int .i64 0)]) [(11,.slice ra rn rc),(12,.int .i64 (Int.ofNat rn)),(13,.int .i64 0)])) m (Y.kont Tryz.prog kp 1 (Y.cfT Tryz.prog cf) L 36 k (AM Tryz.f13) 0 (Y.retF Tryz.prog Tryz.f13 q)))):=by kernel_rfl
theorem MZ(rb:Nat)(rp:Option Nat)(rn rc:Nat)(i:Int)(q:Y.ExK α):Y.codeF Qo Tryz.prog kp 1 (Y.cfT Tryz.prog cf) L 36 k (AB 36 (up x [(11,.slice (some ⟨rb,0,rp⟩) rn rc),(12,.int .i64 rn),(13,.int .i64 i)])) m q=
 (cond (Y.ltF i (Int.ofNat rn)) (L (λt m q=>Y.codeF (Y.loopC Qo 0) Tryz.prog kp 1 (Y.cfT Tryz.prog cf) L 36 k t m q) (Y.loopC Qo 0) k (AB 36 (up (up x [(14,.bool true)]) [(11,.slice (some (Addr.mk rb 0 rp)) rn rc),(12,.int .i64 (Int.ofNat rn)),(13,.int .i64 i)])) m (Y.kont Tryz.prog kp 1 (Y.cfT Tryz.prog cf) L 36 k Qo 0 q)) (q (Ex.exit 0) (AB 36 (up (up x [(14,.bool false)]) [(11,.slice (some (Addr.mk rb 0 rp)) rn rc),(12,.int .i64 (Int.ofNat rn)),(13,.int .i64 i)])) m)):=by kernel_rfl
theorem P3(rb:Nat)(rp:Option Nat)(rn rc:Nat)(i:Int)(q:AF->Mem->Option α):Y.opsF (List.take 5 O3) Tryz.prog kp 1 (Y.cfT Tryz.prog cf) 36 O3 (AB 36 (up x [(11,.slice (some ⟨rb,0,rp⟩) rn rc),(12,.int .i64 rn),(13,.int .i64 i)])) m q=
 (Y.onNat i (λA=>cond (Nat.blt A rn) (Y.cellsOf (Mem.get m rb) (λ_ B=>cond (Nat.ble (Nat.add (Nat.add 0 (Nat.mul A 2)) 2) (Y.lenLF B)) (q (AB 36 (up (up x [(16,.pointer (some ⟨rb,Nat.add 0 (Nat.mul A 2),none⟩)),(15,.int .i64 i)]) [(4,.int .i64 i),(5,.pointer (some ⟨Mem.size m,0,none⟩)),(11,.slice (some (Addr.mk rb 0 rp)) rn rc),(12,.int .i64 (Int.ofNat rn)),(13,.int .i64 i),(17,.agg ⟨Y.subL B (Nat.add 0 (Nat.mul A 2)) 2⟩)])) (Mem.push m (.cells true [.slice none 0 0,.int .u32 0]))) none)) none)):=by kernel_rfl
theorem P4(xb:Nat)(rb:Nat)(rp:Option Nat)(rn rc:Nat)(i:Int)(q:Y.ExK α):Y.kont Tryz.prog kp 1 (Y.cfT Tryz.prog cf) L 36 k Qo 0 q .normal (AB 36 (up x [(4,.int .i64 i),(5,.pointer (some ⟨xb,0,none⟩)),(11,.slice (some ⟨rb,0,rp⟩) rn rc),(12,.int .i64 rn),(13,.int .i64 i)])) m=
 (Y.cellsOf (Mem.get m xb) (λ_ D=>Option.elim (Y.nthL D 0) none (λE=>Y.asSl E (λB A C=>cond (Y.ltF 8 (Int.ofNat A)) (q .ret (AB 36 (up (up x [(20,.int .i64 (Int.ofNat A)),(2,.int .i64 i),(18,.pointer (some ⟨xb,0,none⟩)),(22,.int .i64 i),(21,.bool true),(3,.int .i64 3),(19,.slice B A C)]) [(4,.int .i64 i),(5,.pointer (some ⟨xb,0,none⟩)),(11,.slice (some (Addr.mk rb 0 rp)) rn rc),(12,.int .i64 (Int.ofNat rn)),(13,.int .i64 i)])) m) (L (λt m q=>Y.codeF (Y.loopC Qo 1) Tryz.prog kp 1 (Y.cfT Tryz.prog cf) L 36 k t m q) (Y.loopC Qo 1) k (AB 36 (up (up x [(20,.int .i64 (Int.ofNat A)),(18,.pointer (some ⟨xb,0,none⟩)),(21,.bool false),(19,.slice B A C)]) [(4,.int .i64 i),(5,.pointer (some ⟨xb,0,none⟩)),(11,.slice (some (Addr.mk rb 0 rp)) rn rc),(12,.int .i64 (Int.ofNat rn)),(13,.int .i64 i)])) m (Y.kont Tryz.prog kp 1 (Y.cfT Tryz.prog cf) L 36 k Qo 1 q))) none))):=by kernel_rfl
theorem Sx(xb:Nat)(rb:Nat)(rp:Option Nat)(rn rc:Nat)(i:Int)(q:AF->Mem->Option α):Y.opsF (Um) Tryz.prog kp 1 (Y.cfT Tryz.prog cf) 36 Um (AB 36 (up x [(4,.int .i64 i),(5,.pointer (some ⟨xb,0,none⟩)),(11,.slice (some ⟨rb,0,rp⟩) rn rc),(12,.int .i64 rn),(13,.int .i64 i)])) m q=
 (Y.cellsOf (Mem.get m xb) (λ_ B=>Option.elim (Y.nthL B 0) none (λC=>Y.asSl C (λD A E=>q (AB 36 (up (up x [(23,.pointer (some ⟨xb,0,none⟩))]) [(4,.int .i64 i),(5,.pointer (some ⟨xb,0,none⟩)),(11,.slice (some (Addr.mk rb 0 rp)) rn rc),(12,.int .i64 (Int.ofNat rn)),(13,.int .i64 i),(24,.slice D A E),(25,.int .i64 (Int.ofNat A)),(26,.int .i64 0)])) m) none))):=by kernel_rfl
theorem Sy(ta:Option Addr)(tn tc:Nat)(j:Int)(xb:Nat)(rb:Nat)(rp:Option Nat)(rn rc:Nat)(i:Int)(q:Y.ExK α):Y.kont Tryz.prog kp 1 (Y.cfT Tryz.prog cf) L 36 k Qo 1 q .normal (AB 36 (up x [(4,.int .i64 i),(5,.pointer (some ⟨xb,0,none⟩)),(11,.slice (some ⟨rb,0,rp⟩) rn rc),(12,.int .i64 rn),(13,.int .i64 i),(24,.slice ta tn tc),(25,.int .i64 tn),(26,.int .i64 j)])) m=
 (L (λt m q=>Y.codeF (Y.loopC Qo 2) Tryz.prog kp 1 (Y.cfT Tryz.prog cf) L 36 k t m q) (Y.loopC Qo 2) k (AB 36 (up x [(4,.int .i64 i),(5,.pointer (some ⟨xb,0,none⟩)),(11,.slice (some (Addr.mk rb 0 rp)) rn rc),(12,.int .i64 (Int.ofNat rn)),(13,.int .i64 i),(24,.slice ta tn tc),(25,.int .i64 (Int.ofNat tn)),(26,.int .i64 j)])) m (Y.kont Tryz.prog kp 1 (Y.cfT Tryz.prog cf) L 36 k Qo 2 q)):=by kernel_rfl
theorem Yf(ta:Option Addr)(tn tc:Nat)(j:Int)(xb:Nat)(rb:Nat)(rp:Option Nat)(rn rc:Nat)(i:Int)(q:Y.ExK α):Y.kont Tryz.prog kp 1 (Y.cfT Tryz.prog cf) L 36 k Qo 2 q (.exit 2) (AB 36 (up x [(4,.int .i64 i),(5,.pointer (some ⟨xb,0,none⟩)),(11,.slice (some ⟨rb,0,rp⟩) rn rc),(12,.int .i64 rn),(13,.int .i64 i),(24,.slice ta tn tc),(25,.int .i64 tn),(26,.int .i64 j)])) m=
 (q .normal (AB 36 (up (up x [(24,.slice ta tn tc),(4,.int .i64 i),(26,.int .i64 j),(25,.int .i64 (Int.ofNat tn)),(5,.pointer (some ⟨xb,0,none⟩)),(35,.int .i64 (IntKind.wrap .i64 (Int.add i 1)))]) [(11,.slice (some (Addr.mk rb 0 rp)) rn rc),(12,.int .i64 (Int.ofNat rn)),(13,.int .i64 (IntKind.wrap .i64 (Int.add i 1)))])) m):=by kernel_rfl
theorem lu(w2 w3:Value)(q:Y.ExK α):Y.kont Tryz.prog kp 1 (Y.cfT Tryz.prog cf) L 36 k Qo 2 q .ret (AB 36 (up x [(2,w2),(3,w3)])) m=
 (q .ret (AB 36 (up x [(2,w2),(3,w3)])) m):=by kernel_rfl
theorem P2(tb tn tc:Nat)(tp:Option Nat)(j:Int)(xb:Nat)(rb:Nat)(rp:Option Nat)(rn rc:Nat)(i:Int)(q:Y.ExK α):Y.codeF Wq Tryz.prog kp 1 (Y.cfT Tryz.prog cf) L 36 k (AB 36 (up x [(4,.int .i64 i),(5,.pointer (some ⟨xb,0,none⟩)),(11,.slice (some ⟨rb,0,rp⟩) rn rc),(12,.int .i64 rn),(13,.int .i64 i),(24,.slice (some ⟨tb,0,tp⟩) tn tc),(25,.int .i64 tn),(26,.int .i64 j)])) m q=
 (cond (Y.ltF j (Int.ofNat tn)) (L (λt m q=>Y.codeF (Y.loopC Wq 0) Tryz.prog kp 1 (Y.cfT Tryz.prog cf) L 36 k t m q) (Y.loopC Wq 0) k (AB 36 (up (up x [(27,.bool true)]) [(4,.int .i64 i),(5,.pointer (some ⟨xb,0,none⟩)),(11,.slice (some (Addr.mk rb 0 rp)) rn rc),(12,.int .i64 (Int.ofNat rn)),(13,.int .i64 i),(24,.slice (some (Addr.mk tb 0 tp)) tn tc),(25,.int .i64 (Int.ofNat tn)),(26,.int .i64 j)])) m (Y.kont Tryz.prog kp 1 (Y.cfT Tryz.prog cf) L 36 k Wq 0 q)) (q (Ex.exit 2) (AB 36 (up (up x [(27,.bool false)]) [(4,.int .i64 i),(5,.pointer (some ⟨xb,0,none⟩)),(11,.slice (some (Addr.mk rb 0 rp)) rn rc),(12,.int .i64 (Int.ofNat rn)),(13,.int .i64 i),(24,.slice (some (Addr.mk tb 0 tp)) tn tc),(25,.int .i64 (Int.ofNat tn)),(26,.int .i64 j)])) m)):=by kernel_rfl
theorem Sv(tb tn tc:Nat)(tp:Option Nat)(j:Int)(xb:Nat)(rb:Nat)(rp:Option Nat)(rn rc:Nat)(i:Int)(q:AF->Mem->Option α):Y.opsF (List.take 3 Ki) Tryz.prog kp 1 (Y.cfT Tryz.prog cf) 36 Ki (AB 36 (up x [(4,.int .i64 i),(5,.pointer (some ⟨xb,0,none⟩)),(11,.slice (some ⟨rb,0,rp⟩) rn rc),(12,.int .i64 rn),(13,.int .i64 i),(24,.slice (some ⟨tb,0,tp⟩) tn tc),(25,.int .i64 tn),(26,.int .i64 j)])) m q=
 (Y.onNat j (λA=>cond (Nat.blt A tn) (Y.cellsOf (Mem.get m tb) (λ_ B=>cond (Nat.ble (Nat.add (Nat.add 0 (Nat.mul A 7)) 7) (Y.lenLF B)) (q (AB 36 (up (up x [(28,.pointer (some ⟨tb,Nat.add 0 (Nat.mul A 7),none⟩))]) [(4,.int .i64 i),(5,.pointer (some ⟨xb,0,none⟩)),(7,.pointer (some ⟨Mem.size m,0,none⟩)),(11,.slice (some (Addr.mk rb 0 rp)) rn rc),(12,.int .i64 (Int.ofNat rn)),(13,.int .i64 i),(24,.slice (some (Addr.mk tb 0 tp)) tn tc),(25,.int .i64 (Int.ofNat tn)),(26,.int .i64 j),(29,.agg ⟨Y.subL B (Nat.add 0 (Nat.mul A 7)) 7⟩)])) (Mem.push m (.cells true [.bool false,.int .i64 0,.int .i64 0,.int .i64 0,.int .u64 0,.int .u64 0,.int .u64 0]))) none)) none)):=by kernel_rfl
theorem Sw(yb:Nat)(tb tn tc:Nat)(tp:Option Nat)(j:Int)(xb:Nat)(rb:Nat)(rp:Option Nat)(rn rc:Nat)(i:Int)(q:Y.ExK α):Y.kont Tryz.prog kp 1 (Y.cfT Tryz.prog cf) L 36 k Wq 0 q .normal (AB 36 (up x [(4,.int .i64 i),(5,.pointer (some ⟨xb,0,none⟩)),(7,.pointer (some ⟨yb,0,none⟩)),(11,.slice (some ⟨rb,0,rp⟩) rn rc),(12,.int .i64 rn),(13,.int .i64 i),(24,.slice (some ⟨tb,0,tp⟩) tn tc),(25,.int .i64 tn),(26,.int .i64 j)])) m=
 (Y.cellsOf (Mem.get m yb) (λ_ A=>cond (Nat.ble 7 (Y.lenLF A)) (cf 18 [.agg ⟨Y.subL A 0 7⟩] m (λC B=>Y.asBo C (λD=>cond D (q .normal (AB 36 (up (up x [(32,.bool false),(34,.int .i64 (IntKind.wrap .i64 (Int.add j 1))),(30,.agg ⟨Y.subL A 0 7⟩),(7,.pointer (some ⟨yb,0,none⟩)),(31,.bool true)]) [(4,.int .i64 i),(5,.pointer (some ⟨xb,0,none⟩)),(11,.slice (some (Addr.mk rb 0 rp)) rn rc),(12,.int .i64 (Int.ofNat rn)),(13,.int .i64 i),(24,.slice (some (Addr.mk tb 0 tp)) tn tc),(25,.int .i64 (Int.ofNat tn)),(26,.int .i64 (IntKind.wrap .i64 (Int.add j 1)))])) B) (q .ret (AB 36 (up (up x [(32,.bool true),(2,.int .i64 i),(30,.agg ⟨Y.subL A 0 7⟩),(33,.int .i64 i),(3,.int .i64 1),(7,.pointer (some ⟨yb,0,none⟩)),(31,.bool false)]) [(4,.int .i64 i),(5,.pointer (some ⟨xb,0,none⟩)),(11,.slice (some (Addr.mk rb 0 rp)) rn rc),(12,.int .i64 (Int.ofNat rn)),(13,.int .i64 i),(24,.slice (some (Addr.mk tb 0 tp)) tn tc),(25,.int .i64 (Int.ofNat tn)),(26,.int .i64 j)])) B)) none)) none)):=by kernel_rfl
theorem Ws(u w:Int)(q:Value->Mem->Option α):Y.kont Tryz.prog kp 1 (Y.cfT Tryz.prog cf) L 36 k (AM Tryz.f13) 0 (Y.retF Tryz.prog Tryz.f13 q) .ret (AB 36 (up x [(2,.int .i64 u),(3,.int .i64 w)])) m=
 (q (.tuple ⟨[.int .i64 u,.int .i64 w]⟩) m):=by kernel_rfl
theorem Wr(w11 w12 w13:Value)(q:Value->Mem->Option α):Y.kont Tryz.prog kp 1 (Y.cfT Tryz.prog cf) L 36 k (AM Tryz.f13) 0 (Y.retF Tryz.prog Tryz.f13 q) (.exit 0) (AB 36 (up x [(11,w11),(12,w12),(13,w13)])) m=
 (q (.tuple ⟨[.int .i64 0,.int .i64 0]⟩) m):=by kernel_rfl
end
end Go.Proofs.YtgjflcgmieiafaaGreatDoor
namespace Go.Cmp
def Dg(t:A8):Bool:=
 if t.hi<t.lo then false
 else if t.kind=1\/t.kind=2 then decide (t.pos=0/\t.size=0/\t.mask=0/\t.hi<4294967296)
 else if t.kind≠3/\t.kind≠4 then false
 else if t.size≠1/\t.size≠2/\t.size≠4/\t.size≠8 then false
 else decide (0<=t.pos/\t.pos<=255/\1<=t.mask/\t.mask<=B2 t.size/\t.hi<=B2 t.size)
end Go.Cmp
namespace Go.Proofs.YtgjflcgmieiafaaGreatDoor
open Go Go.DI Go.DI.Kit Go.Proofs Go.Cmp
noncomputable section
theorem tn0(t:A8):Y.nthL (AX t) 0=some (.bool t.neg):=nr rfl
theorem TG(t:A8):Y.nthL (AX t) 1=some (.int .i64 t.kind):=nr rfl
theorem TH(t:A8):Y.nthL (AX t) 2=some (.int .i64 t.pos):=nr rfl
theorem TI(t:A8):Y.nthL (AX t) 3=some (.int .i64 t.size):=nr rfl
theorem TJ(t:A8):Y.nthL (AX t) 4=some (.int .u64 t.mask):=nr rfl
theorem TK(t:A8):Y.nthL (AX t) 5=some (.int .u64 t.lo):=nr rfl
theorem TL(t:A8):Y.nthL (AX t) 6=some (.int .u64 t.hi):=nr rfl
theorem uq:Tryz.prog.funcs[18]?=some Tryz.f18:=by kernel_rfl
theorem ur:Tryz.f18.body=some (AM Tryz.f18):=by kernel_rfl
theorem uu:Tryz.f18.ntmps=93:=by kernel_rfl
theorem n16{a:Value}:max [a].length Tryz.f18.ntmps=93:=by rw[uu];rfl
theorem uv{b:Bool}:I5 Tryz.prog 18 (.bool b)=true:=by kernel_rfl
theorem Yv{α:Type}(cf:Y.CF α)(L:Y.LK α)(k:Nat)(t:AF)(m:Mem)(q:Y.ExK α):Y.codeF (Y.loopC Hl 0) Tryz.prog kp 1 (Y.cfT Tryz.prog cf) L 93 k t m q=Y.opsF Us Tryz.prog kp 1 (Y.cfT Tryz.prog cf) 93 Us t m λt m=>q .normal t m:=by kernel_rfl
theorem mM:Y.loopC Hl 1=Code.region 9 ⟨Yw⟩ true:=by kernel_rfl
theorem HB{α:Type}(cf:Y.CF α)(L:Y.LK α)(k:Nat)(t:AF)(m:Mem)(q:Y.ExK α):Y.codeF (Y.loopC Hl 1) Tryz.prog kp 1 (Y.cfT Tryz.prog cf) L 93 k t m q=Y.drawF Tryz.prog kp 1 (Y.cfT Tryz.prog cf) 93 Yw t m λt m=>q .normal t m:=by
 rw[mM];rfl
abbrev uw(o:C1)(k j:Nat)(fr:AF)(M:Mem):Option (Value×Mem):=
 Gj (Y.lpOf Tryz.prog kp 1 (AJ Tryz.prog kp 1 o k) 93) (λt m q=>Y.codeF (Y.loopC Hl j) Tryz.prog kp 1 (Y.cfT Tryz.prog (Y.cfOf (AJ Tryz.prog kp 1 o k))) (Gj (Y.lpOf Tryz.prog kp 1 (AJ Tryz.prog kp 1 o k) 93)) 93 k t m q) (Y.loopC Hl j) k fr M
  (Y.kont Tryz.prog kp 1 (Y.cfT Tryz.prog (Y.cfOf (AJ Tryz.prog kp 1 o k))) (Gj (Y.lpOf Tryz.prog kp 1 (AJ Tryz.prog kp 1 o k) 93)) 93 k Hl j (Y.retF Tryz.prog Tryz.f18 λv m=>some (v,m)))
abbrev ux(o:C1)(k j:Nat)(fr:AF)(M:Mem):Option (Value×Mem):=
 Y.kont Tryz.prog kp 1 (Y.cfT Tryz.prog (Y.cfOf (AJ Tryz.prog kp 1 o k))) (Gj (Y.lpOf Tryz.prog kp 1 (AJ Tryz.prog kp 1 o k) 93)) 93 k Hl j (Y.retF Tryz.prog Tryz.f18 λv m=>some (v,m)) .normal fr M
section
variable{M:Mem}{o:C1}{k tb:Nat}{t:A8}
theorem eW(hO:Gu o)(hk:5<=k)(hM:M.top/\1<=M.size/\M.get 0= .cells false gl)(gb:M.get tb= .cells true (AX t))(hlt:tb<M.size)(hz:Uo t.size):
  ∃M',(∀(x:Nat->Value) (bb:Bool),uw o k 1 (AB 93 (up x [(1, .pointer (some ⟨tb,0,none⟩)),(2, .bool bb)])) M=some (.bool (decide (0<=t.pos/\t.pos<=255/\1<=t.mask/\t.mask<=B2 t.size/\t.hi<=B2 t.size)),M'))/\Ext M M':=by
 obtain⟨M2,c1,x2⟩:=hO.full2 hz k M (by omega) hM.1 hM.2.1 hM.2.2
 have s2:=x2.size
 obtain⟨M3,c2,x3⟩:=hO.full2 hz k M2 (by omega) (x2.top hM.1) (by omega) ((x2.get 0 (by omega)).trans hM.2.2)
 have g2:M2.get tb= .cells true (AX t):=(x2.get tb hlt).trans gb
 have g3:M3.get tb= .cells true (AX t):=(x3.get tb (by omega)).trans g2
 have x23:=x2.trans x3
 by_cases p0:0<=t.pos
 ·by_cases p1:t.pos<=255
  ·by_cases p2:1<=t.mask
   ·by_cases p3:t.mask<=B2 t.size
    ·by_cases p4:t.hi<=B2 t.size
     ·refine⟨M3,λx bb=>?_,x23⟩;rw[decide_eq_true (show(0<=t.pos/\t.pos<=255/\1<=t.mask/\t.mask<=B2 t.size/\t.hi<=B2 t.size)by exact⟨p0,p1,p2,p3,p4⟩)];refine Eq.trans (BG _ _ _ (by kernel_rfl) _ _ _ _) ?_;refine Eq.trans (HB ..) ?_;refine Eq.trans (Kk ..) ?_;simp only[gb,AR,TG,TH,TI,TJ,TK,TL,BN,BF,CN,AH,BH,HU,Cg (show¬t.pos<0 by omega),Cg (show¬255<t.pos by omega),Cg (show¬t.mask<1 by omega),ke,c1,c2,Kl,g2,g3,Cg (show¬B2 t.size<t.mask by omega),Cg (show¬B2 t.size<t.hi by omega),Bp (rfl:t.mask=t.mask),Bp (rfl:t.hi=t.hi)];exact Km ..
     ·refine⟨M3,λx bb=>?_,x23⟩;rw[decide_eq_false (show¬(0<=t.pos/\t.pos<=255/\1<=t.mask/\t.mask<=B2 t.size/\t.hi<=B2 t.size)by intro h;omega)];refine Eq.trans (BG _ _ _ (by kernel_rfl) _ _ _ _) ?_;refine Eq.trans (HB ..) ?_;refine Eq.trans (Kk ..) ?_;simp only[gb,AR,TG,TH,TI,TJ,TK,TL,BN,BF,CN,AH,BH,HU,Cg (show¬t.pos<0 by omega),Cg (show¬255<t.pos by omega),Cg (show¬t.mask<1 by omega),ke,c1,c2,Kl,g2,g3,Cg (show¬B2 t.size<t.mask by omega),Ef (show B2 t.size<t.hi by omega),Bp (rfl:t.mask=t.mask),Bp (rfl:t.hi=t.hi)];exact Km ..
    ·refine⟨M2,λx bb=>?_,x2⟩;rw[decide_eq_false (show¬(0<=t.pos/\t.pos<=255/\1<=t.mask/\t.mask<=B2 t.size/\t.hi<=B2 t.size)by intro h;omega)];refine Eq.trans (BG _ _ _ (by kernel_rfl) _ _ _ _) ?_;refine Eq.trans (HB ..) ?_;refine Eq.trans (Kk ..) ?_;simp only[gb,AR,TG,TH,TI,TJ,TK,TL,BN,BF,CN,AH,BH,HU,Cg (show¬t.pos<0 by omega),Cg (show¬255<t.pos by omega),Cg (show¬t.mask<1 by omega),ke,c1,Kl,g2,Ef (show B2 t.size<t.mask by omega),Bp (rfl:t.mask=t.mask)];exact Km ..
   ·refine⟨M,λx bb=>?_,Ext.refl _⟩;rw[decide_eq_false (show¬(0<=t.pos/\t.pos<=255/\1<=t.mask/\t.mask<=B2 t.size/\t.hi<=B2 t.size)by intro h;omega)];refine Eq.trans (BG _ _ _ (by kernel_rfl) _ _ _ _) ?_;refine Eq.trans (HB ..) ?_;refine Eq.trans (Kk ..) ?_;simp only[gb,AR,TG,TH,TI,TJ,TK,TL,BN,BF,CN,AH,BH,HU,Cg (show¬t.pos<0 by omega),Cg (show¬255<t.pos by omega),Ef (show t.mask<1 by omega)];exact Km ..
  ·refine⟨M,λx bb=>?_,Ext.refl _⟩;rw[decide_eq_false (show¬(0<=t.pos/\t.pos<=255/\1<=t.mask/\t.mask<=B2 t.size/\t.hi<=B2 t.size)by intro h;omega)];refine Eq.trans (BG _ _ _ (by kernel_rfl) _ _ _ _) ?_;refine Eq.trans (HB ..) ?_;refine Eq.trans (Kk ..) ?_;simp only[gb,AR,TG,TH,TI,TJ,TK,TL,BN,BF,CN,AH,BH,HU,Cg (show¬t.pos<0 by omega),Ef (show 255<t.pos by omega)];exact Km ..
 ·refine⟨M,λx bb=>?_,Ext.refl _⟩;rw[decide_eq_false (show¬(0<=t.pos/\t.pos<=255/\1<=t.mask/\t.mask<=B2 t.size/\t.hi<=B2 t.size)by intro h;omega)];refine Eq.trans (BG _ _ _ (by kernel_rfl) _ _ _ _) ?_;refine Eq.trans (HB ..) ?_;refine Eq.trans (Kk ..) ?_;simp only[gb,AR,TG,TH,TI,TJ,TK,TL,BN,BF,CN,AH,BH,HU,Ef (show t.pos<0 by omega)];exact Km ..
theorem eX(hO:Gu o)(hk:5<=k)(hM:M.top/\1<=M.size/\M.get 0= .cells false gl)(gb:M.get tb= .cells true (AX t))(hlt:tb<M.size):
  ∃M',(∀x:Nat->Value,ux o k 0 (AB 93 (up x [(1, .pointer (some ⟨tb,0,none⟩)),(2, .bool false)])) M=some (.bool (Dg t),M'))/\Ext M M':=by
 by_cases h1:t.hi<t.lo
 ·refine⟨M,λx=>?_,Ext.refl _⟩;rw[show Dg t=false by simp[Dg,h1]];refine Eq.trans (Mg ..) ?_;simp only[gb,AR,TG,TH,TI,TJ,TK,TL,BN,BF,CN,AH,BH,HU,Ef h1]
 ·by_cases h2:t.kind=1\/t.kind=2
  ·refine⟨M,λx=>?_,Ext.refl _⟩;rw[show Dg t=decide (t.pos=0/\t.size=0/\t.mask=0/\t.hi<4294967296)by simp[Dg,h1,h2]];refine Eq.trans (Mg ..) ?_;rcases h2 with h2|h2
   ·simp only[gb,AR,TG,TH,TI,TJ,TK,TL,BN,BF,CN,AH,BH,HU,Cg h1,Bp h2];by_cases a1:t.pos=0
    ·by_cases a2:t.size=0
     ·by_cases a3:t.mask=0
      ·by_cases a4:t.hi<4294967296
       ·rw[Bp a1,Bp a2,Bp a3,Ef a4,decide_eq_true ⟨a1,a2,a3,a4⟩];rfl
       ·rw[Bp a1,Bp a2,Bp a3,Cg a4,decide_eq_false (λh=>a4 h.2.2.2)];rfl
      ·rw[Bp a1,Bp a2,Bs a3,decide_eq_false (λh=>a3 h.2.2.1)];rfl
     ·rw[Bp a1,Bs a2,decide_eq_false (λh=>a2 h.2.1)];rfl
    ·rw[Bs a1,decide_eq_false (λh=>a1 h.1)];rfl
   ·simp only[gb,AR,TG,TH,TI,TJ,TK,TL,BN,BF,CN,AH,BH,HU,Cg h1,Bp h2,Bs (show t.kind≠1 by omega)];by_cases a1:t.pos=0
    ·by_cases a2:t.size=0
     ·by_cases a3:t.mask=0
      ·by_cases a4:t.hi<4294967296
       ·rw[Bp a1,Bp a2,Bp a3,Ef a4,decide_eq_true ⟨a1,a2,a3,a4⟩];rfl
       ·rw[Bp a1,Bp a2,Bp a3,Cg a4,decide_eq_false (λh=>a4 h.2.2.2)];rfl
      ·rw[Bp a1,Bp a2,Bs a3,decide_eq_false (λh=>a3 h.2.2.1)];rfl
     ·rw[Bp a1,Bs a2,decide_eq_false (λh=>a2 h.2.1)];rfl
    ·rw[Bs a1,decide_eq_false (λh=>a1 h.1)];rfl
  ·by_cases h3:t.kind=3\/t.kind=4
   ·by_cases hz:Uo t.size
    ·obtain⟨M',c,x'⟩:=eW hO hk hM gb hlt hz;refine⟨M',λx=>?_,x'⟩
     rw[show Dg t=decide (0<=t.pos/\t.pos<=255/\1<=t.mask/\t.mask<=B2 t.size/\t.hi<=B2 t.size)by
      have e3:¬(t.kind≠3/\t.kind≠4):=by omega
      have e4:¬(t.size≠1/\t.size≠2/\t.size≠4/\t.size≠8):=by unfold Uo at hz;omega
      unfold Dg;rw[if_neg h1,if_neg h2,if_neg e3,if_neg e4]]
     refine Eq.trans (Mg ..) ?_;rcases h3 with h3|h3
     ·simp only[gb,AR,TG,TH,TI,TJ,TK,TL,BN,BF,CN,AH,BH,HU,Cg h1,Bs (show t.kind≠1 by omega),Bs (show t.kind≠2 by omega),Bp h3];rcases hz with hz|hz|hz|hz
      ·simp only[Bp hz,AH];exact c ..
      ·simp only[Bp hz,Bs (show t.size≠1 by omega),AH,BH];exact c ..
      ·simp only[Bp hz,Bs (show t.size≠1 by omega),Bs (show t.size≠2 by omega),AH,BH];exact c ..
      ·simp only[Bp hz,Bs (show t.size≠1 by omega),Bs (show t.size≠2 by omega),Bs (show t.size≠4 by omega),AH,BH];exact c ..
     ·simp only[gb,AR,TG,TH,TI,TJ,TK,TL,BN,BF,CN,AH,BH,HU,Cg h1,Bs (show t.kind≠1 by omega),Bs (show t.kind≠2 by omega),Bs (show t.kind≠3 by omega),Bp h3];rcases hz with hz|hz|hz|hz
      ·simp only[Bp hz,AH];exact c ..
      ·simp only[Bp hz,Bs (show t.size≠1 by omega),AH,BH];exact c ..
      ·simp only[Bp hz,Bs (show t.size≠1 by omega),Bs (show t.size≠2 by omega),AH,BH];exact c ..
      ·simp only[Bp hz,Bs (show t.size≠1 by omega),Bs (show t.size≠2 by omega),Bs (show t.size≠4 by omega),AH,BH];exact c ..
    ·refine⟨M,λx=>?_,Ext.refl _⟩;unfold Uo at hz
     rw[show Dg t=false by
      have e4:t.size≠1/\t.size≠2/\t.size≠4/\t.size≠8:=by omega
      have e3:¬(t.kind≠3/\t.kind≠4):=by omega
      unfold Dg;rw[if_neg h1,if_neg h2,if_neg e3,if_pos e4]]
     refine Eq.trans (Mg ..) ?_;have z1:=Bs (show t.size≠1 by omega);have z2:=Bs (show t.size≠2 by omega);have z4:=Bs (show t.size≠4 by omega);have z8:=Bs (show t.size≠8 by omega);rcases h3 with h3|h3
     ·simp only[gb,AR,TG,TH,TI,TJ,TK,TL,BN,BF,CN,AH,BH,HU,Cg h1,Bs (show t.kind≠1 by omega),Bs (show t.kind≠2 by omega),Bp h3,z1,z2,z4,z8]
     ·simp only[gb,AR,TG,TH,TI,TJ,TK,TL,BN,BF,CN,AH,BH,HU,Cg h1,Bs (show t.kind≠1 by omega),Bs (show t.kind≠2 by omega),Bs (show t.kind≠3 by omega),Bp h3,z1,z2,z4,z8]
   ·refine⟨M,λx=>?_,Ext.refl _⟩
    rw[show Dg t=false by
     have e3:t.kind≠3/\t.kind≠4:=by omega
     unfold Dg;rw[if_neg h1,if_neg h2,if_pos e3]]
    refine Eq.trans (Mg ..) ?_;simp only[gb,AR,TG,TH,TI,TJ,TK,TL,BN,BF,CN,AH,BH,HU,Cg h1,Bs (show t.kind≠1 by omega),Bs (show t.kind≠2 by omega),Bs (show t.kind≠3 by omega),Bs (show t.kind≠4 by omega)]
theorem lr(hO:Gu o)(hk:10<=k)(hM:M.top/\1<=M.size/\M.get 0= .cells false gl):∃M',AJ Tryz.prog kp 1 o k 18 [.agg ⟨AX t⟩] M=some (.bool (Dg t),M')/\Ext M M':=by
 obtain⟨k,rfl⟩:∃k',k=k'+1:=⟨k - 1,by omega⟩
 have x1:=Ext.push M (.cells true (AX t))
 have s1:=x1.size
 obtain⟨M',c,x'⟩:=eX (M:=M.push (.cells true (AX t))) (k:=k) (tb:=M.size) (t:=t) hO (by omega) ⟨x1.top hM.1,by omega,(x1.get 0 (by omega)).trans hM.2.2⟩ (Mem.get_push_same _ _) (by show M.size<M.size+1;omega)
 refine⟨M',CJ 93 (hO.off 18 (by decide) _ _) uq ur n16 ?_ uv,x1.trans x'⟩
 refine Eq.trans (BW [0,9] Tryz.prog kp 1 _ (Y.lpOf Tryz.prog kp 1 (AJ Tryz.prog kp 1 o k) 93) (λ_ _ _ _ _ _ _=>rfl) 93 k (AM Tryz.f18) (by kernel_rfl) _ M _) ?_
 obtain⟨neg,kind,pos,size,mask,lo,hi⟩:=t
 refine Eq.trans (Yx ..) ?_
 refine Eq.trans (BG _ _ _ (by kernel_rfl) _ _ _ _) ?_
 refine Eq.trans (Yv ..) ?_
 refine Eq.trans (mN ..) ?_
 exact c ..
end
section
variable{M:Mem}{o:C1}{k tb:Nat}{t:A8}
end
end
end Go.Proofs.YtgjflcgmieiafaaGreatDoor
namespace Go.Proofs.YtgjflcgmieiafaaGreatDoor
open Go Go.DI Go.DI.Kit Go.Proofs Go.Cmp
noncomputable section
theorem vD:Tryz.prog.funcs[39]?=some Tryz.f39:=by kernel_rfl
theorem vE:Tryz.f39.body=some (AM Tryz.f39):=by kernel_rfl
theorem vF:Tryz.f39.ntmps=62:=by kernel_rfl
theorem n39{a b c:Value}:max [a,b,c].length Tryz.f39.ntmps=62:=by rw[vF];rfl
theorem vG:I5 Tryz.prog 39 CB=true:=by kernel_rfl
section
variable{K:CH}{mp:Nat}{rows:List BB}{AL:List (Nat×Nat)}{fr:Nat->Prop}{M:Mem}
variable{o:C1}{k:Nat}
theorem MJ{lp l:Nat}(hO:Gu o)(hk:100000+15<=k)(hl:rows.length+1<=100000)(h:St K mp rows ((lp,l)::AL) fr M):
  ∃M1,AJ Tryz.prog kp 1 o k 25 [ptr mp, .slice (some ⟨M.size,0,none⟩) 1 1] (M.push (.cells true [ptr lp]))=some (CB,M1)/\Hu o k 26 [ptr mp, .slice (some ⟨M1.size,0,none⟩) 1 1] (M1.push (.cells true [ptr lp])) (St K mp (rows++ [lab l]) AL fr):=by
 have hb:=h.box (.cells true [ptr lp])
 obtain⟨M3,c3,h3⟩:=MK (k:=k) (hO.off 25 (by decide)) (by omega) (by omega) hb.1 (BM ..)
 have h3:=h3.weak h.glb hb.2
 have hb2:=h3.box (.cells true [ptr lp])
 obtain⟨M4,c4,h4⟩:=Kr (k:=k) (ps:= [(lp,l)]) (hO.off 26 (by decide)) (by simp;omega) (by omega) (by simp) (BM ..) hb2.1
 exact⟨M3,c3,M4,c4,h4.weak h.glb hb2.2⟩
theorem XU{t:A8}{lp l dl dn tb n i:Nat}(hO:Gu o)(hk:100000+30<=k)(hl:rows.length+10<=100000)(hp:0<=t.pos/\t.pos<=255)(hz:Uo t.size)(hi:i<16)(hlp:(lp,l)∈AL)(hdl:(dl,dn)∈AL)(htb:K tb=some (.cells true (AX t)))
  (h1:fr (n+1)) (h2:fr (n+2)) (h:St K mp rows AL fr M) (x:Nat->Value):∃x' M',AI Tryz.prog kp 1 (AJ Tryz.prog kp 1 o k) (AV Tryz.prog kp 1 (AJ Tryz.prog kp 1 o k) 62) 62 k (BK Tryz.f39 0) (AB 62 (up x [(0, .pointer (some ⟨mp,0,none⟩)),(2, .pointer (some ⟨lp,0,none⟩)),(4, .pointer (some ⟨tb,0,none⟩)),(6, .pointer (some ⟨dl,0,none⟩)),(18, .int .i64 (i:Int))])) M=some (.normal,AB 62 (up x' [(0, .pointer (some ⟨mp,0,none⟩)),(2, .pointer (some ⟨lp,0,none⟩)),(4, .pointer (some ⟨tb,0,none⟩)),(6, .pointer (some ⟨dl,0,none⟩)),(18, .int .i64 ((i+1:Nat):Int))]),M')/\
   St K mp (rows++([ins (DO 5 2 i) (if i=15 then l else n+1)]++Cr (n+2) (14+4*(i:Int)+t.pos+t.size) l++ [ins (BL t.size 2 7 (14+4*(i:Int)+t.pos)) 0,ins CC dn,lab (n+1)])) AL (λj=>fr j/\j≠n+1/\j≠n+2) M':=by
 have hzb:1<=t.size/\t.size<=8:=by rcases hz with e|e|e|e<;>rw[e] <;>omega
 have e1:IntKind.wrap .i64 (Int.mul (4:Int) (i:Int))=4*(i:Int):=wrap64 (by show _<=4*(i:Int)/\4*(i:Int)<=_;omega)
 have e2:IntKind.wrap .i64 (Int.add (14:Int) (4*(i:Int)))=14+4*(i:Int):=wrap64 (by show _<=14+4*(i:Int)/\14+4*(i:Int)<=_;omega)
 have e3:IntKind.wrap .i64 (Int.add (14+4*(i:Int)) t.pos)=14+4*(i:Int)+t.pos:=wrap64 (by show _<=14+4*(i:Int)+t.pos/\14+4*(i:Int)+t.pos<=_;omega)
 have e4:IntKind.wrap .i64 (Int.add (14+4*(i:Int)+t.pos) t.size)=14+4*(i:Int)+t.pos+t.size:=wrap64 (by show _<=14+4*(i:Int)+t.pos+t.size/\14+4*(i:Int)+t.pos+t.size<=_;omega)
 have h0:=h.label h1
 have hw:IntKind.wrap .i32 (i:Int)=(i:Int):=I8 (by omega) (by omega)
 have hsub:∀j,(((fr j/\j≠n+1)/\j≠n+2)↔ (fr j/\j≠n+1/\j≠n+2)):=λj=>and_assoc
 have hW:∃p,p=(if i=15 then lp else M.size)/\(p,if i=15 then l else n+1)∈(M.size,n+1)::AL:=by
  refine⟨_,rfl,?_⟩;by_cases e:i=15
  ·rw[if_pos e,if_pos e];exact List.mem_cons_of_mem _ hlp
  ·rw[if_neg e,if_neg e];exact List.mem_cons_self ..
 obtain⟨p,hpe,hpm⟩:=hW
 obtain⟨M1,c1,h1'⟩:=MH (k:=k) (op:=5) (d:=2) (n:=(i:Int)) hO (by omega) (by omega) (by simp) hpm h0
 obtain⟨M2,c2,h2'⟩:=Pk (k:=k) (n:=14+4*(i:Int)+t.pos+t.size) (a:=n+2) hO (by omega) (by simp;omega) (List.mem_cons_of_mem _ hlp) ⟨h2,by omega⟩ h1'
 obtain⟨M3,c3,h3'⟩:=I6 (k:=k) (z:=t.size) (d:=2) (s:=7) (n:=14+4*(i:Int)+t.pos) hO (by omega) (by simp[Cr];omega) (.inr (.inr (.inr ⟨hz,rfl,rfl⟩))) h2'
 obtain⟨M4,c4,h4'⟩:=KD (k:=k) hO (by omega) (by simp[Cr];omega) (List.mem_cons_of_mem _ hdl) h3'
 obtain⟨M5,c5,M6,c6,h6⟩:=MJ (k:=k) hO (by omega) (by simp[Cr];omega) h4'
 have gb1:=h1'.get htb
 have gb2:=h2'.get htb
 have hfin:=h6.frees (fr':=λj=>fr j/\j≠n+1/\j≠n+2) λj hj=>(hsub j).2 hj
 have hb:∃x',AI Tryz.prog kp 1 (AJ Tryz.prog kp 1 o k) (AV Tryz.prog kp 1 (AJ Tryz.prog kp 1 o k) 62) 62 k (BK Tryz.f39 0) (AB 62 (up x [(0, .pointer (some ⟨mp,0,none⟩)),(2, .pointer (some ⟨lp,0,none⟩)),(4, .pointer (some ⟨tb,0,none⟩)),(6, .pointer (some ⟨dl,0,none⟩)),(18, .int .i64 (i:Int))])) M=some (.normal,AB 62 (up x' [(0, .pointer (some ⟨mp,0,none⟩)),(2, .pointer (some ⟨lp,0,none⟩)),(4, .pointer (some ⟨tb,0,none⟩)),(6, .pointer (some ⟨dl,0,none⟩)),(18, .int .i64 ((i+1:Nat):Int))]),M6):=by
  have hlt:Y.ltF (i:Int) (16:Int)=true:=Ef (by omega);by_cases e:i=15
  ·rw[if_pos e]at hpe;apply Exists.intro;refine Ei ?_;refine Eq.trans (TO ..) ?_;rw[hlt,AH,Bp (show(i:Int)=15 by omega),AH,hw];subst hpe;refine step c1 ?_;rw[gb1,AR,show Y.nthL (AX t) 2=some (.int .i64 t.pos)from rfl,BN,BF,CN,AH,AR,show Y.nthL (AX t) 3=some (.int .i64 t.size)from rfl,BN,BF,CN,AH,e1,e2,e3,e4];refine step c2 ?_;rw[gb2,AR,show Y.nthL (AX t) 3=some (.int .i64 t.size)from rfl,BN,BF,CN,AH];refine step c3 ?_;refine step c4 ?_;refine step c5 ?_;refine step c6 ?_;rw[Ct (by omega)];rfl
  ·rw[if_neg e]at hpe;apply Exists.intro;refine Ei ?_;refine Eq.trans (TO ..) ?_;rw[hlt,AH,Bs (show(i:Int)≠15 by omega),BH,hw];subst hpe;refine step c1 ?_;rw[gb1,AR,show Y.nthL (AX t) 2=some (.int .i64 t.pos)from rfl,BN,BF,CN,AH,AR,show Y.nthL (AX t) 3=some (.int .i64 t.size)from rfl,BN,BF,CN,AH,e1,e2,e3,e4];refine step c2 ?_;rw[gb2,AR,show Y.nthL (AX t) 3=some (.int .i64 t.size)from rfl,BN,BF,CN,AH];refine step c3 ?_;refine step c4 ?_;refine step c5 ?_;refine step c6 ?_;rw[Ct (by omega)];rfl
 obtain⟨x',hb⟩:=hb
 refine⟨x',M6,hb,?_⟩
 simp only[List.append_assoc,List.cons_append,List.nil_append]at hfin ⊢
 exact hfin
theorem Of{t:A8}{lp l dl dn tb:Nat}(hO:Gu o)(hk:100000+30<=k)(hp:0<=t.pos/\t.pos<=255)(hz:Uo t.size)(hlp:(lp,l)∈AL)(hdl:(dl,dn)∈AL)(htb:K tb=some (.cells true (AX t))):
  ∀(d i:Nat),i+d=16->∀(jj n:Nat) (rows:List BB) (fr:Nat->Prop) (x:Nat->Value) (M:Mem),d+1<=jj->rows.length+10*d<=100000->(∀j,n<j/\j<=n+2*d->fr j)->St K mp rows AL fr M->
  ∃x' M',BT (AI Tryz.prog kp 1 (AJ Tryz.prog kp 1 o k) (AV Tryz.prog kp 1 (AJ Tryz.prog kp 1 o k) 62) 62 k (BK Tryz.f39 0)) jj (AB 62 (up x [(0, .pointer (some ⟨mp,0,none⟩)),(2, .pointer (some ⟨lp,0,none⟩)),(4, .pointer (some ⟨tb,0,none⟩)),(6, .pointer (some ⟨dl,0,none⟩)),(18, .int .i64 (i:Int))])) M=some (.exit 0,AB 62 (up x' [(0, .pointer (some ⟨mp,0,none⟩)),(2, .pointer (some ⟨lp,0,none⟩)),(4, .pointer (some ⟨tb,0,none⟩)),(6, .pointer (some ⟨dl,0,none⟩)),(18, .int .i64 ((16:Nat):Int))]),M')/\
   St K mp (rows++C6 t l dn d i n) AL (λj=>fr j/\¬(n<j/\j<=n+2*d)) M'
 |0,i,hi,jj,n,rows,fr,x,M,hjj,_,_,h=>by
  obtain⟨jj,rfl⟩:∃j',jj=j'+1:=⟨jj - 1,by omega⟩;obtain rfl:i=16:=by omega
  have hb:∃x',AI Tryz.prog kp 1 (AJ Tryz.prog kp 1 o k) (AV Tryz.prog kp 1 (AJ Tryz.prog kp 1 o k) 62) 62 k (BK Tryz.f39 0) (AB 62 (up x [(0, .pointer (some ⟨mp,0,none⟩)),(2, .pointer (some ⟨lp,0,none⟩)),(4, .pointer (some ⟨tb,0,none⟩)),(6, .pointer (some ⟨dl,0,none⟩)),(18, .int .i64 ((16:Nat):Int))])) M=some (.exit 0,AB 62 (up x' [(0, .pointer (some ⟨mp,0,none⟩)),(2, .pointer (some ⟨lp,0,none⟩)),(4, .pointer (some ⟨tb,0,none⟩)),(6, .pointer (some ⟨dl,0,none⟩)),(18, .int .i64 ((16:Nat):Int))]),M):=by
   apply Exists.intro;refine Ei ?_;refine Eq.trans (TO ..) ?_;rw[show Y.ltF ((16:Nat):Int) (16:Int)=false from rfl,BH];rfl
  obtain⟨x',hb⟩:=hb;refine⟨x',M,CY jj hb (by simp),?_⟩;rw[show C6 t l dn 0 16 n= []from rfl,List.append_nil];exact h.frees λj hj=>hj.1
 |d+1,i,hi,jj,n,rows,fr,x,M,hjj,hl,hf,h=>by
  obtain⟨jj,rfl⟩:∃j',jj=j'+1:=⟨jj - 1,by omega⟩;obtain⟨x1,M1,hb,h1⟩:=XU (n:=n) (i:=i) hO hk (by omega) hp hz (by omega) hlp hdl htb (hf _ ⟨by omega,by omega⟩) (hf _ ⟨by omega,by omega⟩) h x;obtain⟨x2,M2,h2,h3⟩:=Of hO hk hp hz hlp hdl htb d (i+1) (by omega) jj (n+2) _ _ x1 M1 (by omega) (by simp[Cr];omega) (λj hj=>⟨hf j ⟨by omega,by omega⟩,by omega,by omega⟩) h1;refine⟨x2,M2,(Ck jj hb).trans h2,?_⟩
  have e:rows++C6 t l dn (d+1) i n=rows++([ins (DO 5 2 i) (if i=15 then l else n+1)]++Cr (n+2) (14+4*(i:Int)+t.pos+t.size) l++ [ins (BL t.size 2 7 (14+4*(i:Int)+t.pos)) 0,ins CC dn,lab (n+1)])++C6 t l dn d (i+1) (n+2):=by
   rw[C6];simp only[List.append_assoc]
  rw[e];exact h3.frees λj hj=>⟨⟨hj.1,by omega,by omega⟩,by omega⟩
theorem fp{t:A8}{lp l n:Nat}(hO:Gu o)(hk:100000+40<=k)(hl:rows.length+200<=100000)(hp:0<=t.pos/\t.pos<=255)(hz:Uo t.size)(hlp:(lp,l)∈AL)(hf:∀j,n<j/\j<=n+34->fr j)(h:St K mp rows AL fr M):
  Hu o k 39 [ptr mp, .agg ⟨AX t⟩,ptr lp] M (St K mp (rows++(Cr (n+2) 15 l++ [ins (BL 1 2 7 14) 0,ins (DU 5 2 15) 0]++C6 t l (n+1) 16 0 (n+2)++ [lab (n+1)])) AL (λj=>fr j/\¬(n<j/\j<=n+34))):=by
 obtain⟨k,rfl⟩:∃k',k=k'+1:=⟨k - 1,by omega⟩
 have hb:=h.box (.cells true (AX t))
 obtain⟨M1,c1,h1⟩:=Pk (k:=k) (n:=15) (a:=n+2) hO (by omega) (by omega) hlp (hf _ ⟨by omega,by omega⟩) hb.1
 obtain⟨M2,c2,h2⟩:=I6 (k:=k) (z:=1) (d:=2) (s:=7) (n:=14) hO (by omega) (by simp[Cr];omega) (by simp) h1
 obtain⟨M3,c3,h3⟩:=Pm (k:=k) (op:=5) (d:=2) (n:=15) hO (by omega) (by simp[Cr];omega) (by simp) h2
 have h4:=h3.label (l:=n+1) ⟨hf _ ⟨by omega,by omega⟩,by omega⟩
 obtain⟨x5,M5,hloop,h5⟩:=Of (AL:=(M3.size,n+1)::AL) (dl:=M3.size) (dn:=n+1) (t:=t) hO (k:=k) (by omega) hp hz (List.mem_cons_of_mem _ hlp) (List.mem_cons_self ..) (BM K M.size (.cells true (AX t))) 16 0 (by omega) k (n+2) _ _
  (up Go.DI.x0 [(16,(.pointer (some (Addr.mk mp 0 none)))),(12,(.pointer (some (Addr.mk lp 0 none)))),(14,(.pointer (some (Addr.mk mp 0 none)))),(1,(.agg ⟨AX t⟩)),(17,CB),(13,CB),(11,(.pointer (some (Addr.mk mp 0 none)))),(15,CB)]) _ (by omega) (by simp[Cr];omega) (λj hj=>⟨⟨hf j ⟨by omega,by omega⟩,by omega⟩,by omega⟩) h4
 have hlen:(C6 t l (n+1) 16 0 (n+2)).length=112:=by simp[C6,Cr]
 obtain⟨M6,c6,M7,c7,h7⟩:=MJ (k:=k) hO (by omega) (by simp[Cr,hlen];omega) h5
 have h7:=(h7.weak h.glb hb.2).frees (fr':=λj=>fr j/\¬(n<j/\j<=n+34)) λj hj=>⟨⟨⟨hj.1,by omega⟩,by omega⟩,by omega⟩
 simp only[List.append_assoc]at h7 ⊢
 refine⟨M7,CJ 62 (hO.off 39 (by decide) _ _) vD vE n39 ?_ vG,h7⟩
 obtain⟨neg,kind,pos,size,mask,lo,hi⟩:=t
 refine Eq.trans (XV ..) ?_
 refine step c1 ?_
 refine step c2 ?_
 refine step c3 ?_
 rw[Y.lpOf_eq,Y.loopC_body]
 refine Eq.trans (congrArg (λr=>Y.onE r _) hloop) ?_
 rw[Y.onE_some]
 refine Eq.trans (TP ..) ?_
 refine step c6 ?_
 refine step c7 ?_
 rfl
end
end
end Go.Proofs.YtgjflcgmieiafaaGreatDoor
