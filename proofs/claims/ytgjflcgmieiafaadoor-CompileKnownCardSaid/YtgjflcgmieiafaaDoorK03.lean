/- CompileKnown answers true: the document's examples of tables, their codes, sizes, faults and verdicts are as it says. Conditions: those of the given row and its card (the variable insn.sizes is laid as its initialiser says). -/
import Derived.Test.YtgjflcgmieiafaaDoorK02
import Derived.IntWalk
import Derived.Test.YtgjflcgmieiafaaDoorChecked
set_option linter.all false
set_option linter.unusedVariables false
set_option linter.unusedSimpArgs false
namespace Go.DI
def Free(v:Value):Prop:=∀(ι κ:Ren) (v':Value),AV ι v v'->AV κ v v'
theorem Free.sim{v:Value}(h:Free v)(ρ:Nat->Nat)(k:Nat->Bool):PK ρ k v v:=λι v' g=>h ι _ v' g
theorem Free.emb{v:Value}(h:Free v)(ρ:Nat->Nat):Q8 ρ v v:=λι κ v' _ g=>h ι κ v' g
theorem Cq(k:IntKind)(n:Int):Free (.int k n):=λ_ _ _ h=>by cases h;constructor
theorem D4(b:Bool):Free (.bool b):=λ_ _ _ h=>by cases h;constructor
theorem Km(b:ByteArray):Free (.string b):=λ_ _ _ h=>by cases h;constructor
theorem Ny:Free (.pointer none):=λ_ _ _ h=>by cases h;constructor
theorem EP(n c:Nat):Free (.slice none n c):=λ_ _ _ h=>by cases h;constructor
theorem Xn{a:Array Value}(h:∀x∈a.toList,Free x):Free (.agg a):=λι κ v' g=>by
 cases g with
 |agg _ a' hs hr=>
  refine .agg _ _ hs λi x y hx hy=>h x ?_ ι κ y (hr i x y hx hy);exact Array.mem_toList_iff.2 (Array.mem_of_getElem? hx)
theorem Ej{a:Array Value}(h:∀x∈a.toList,Free x):Free (.tuple a):=λι κ v' g=>by
 cases g with
 |tuple _ a' hs hr=>
  refine .tuple _ _ hs λi x y hx hy=>h x ?_ ι κ y (hr i x y hx hy);exact Array.mem_toList_iff.2 (Array.mem_of_getElem? hx)
section
variable{ρ:Nat->Nat}{k:Nat->Bool}
theorem Ren.sub_some{ι:Ren}{i:Nat}{L:Loc}(hi:k i=true)(h:ι (ρ i)=some L):(ι.sub ρ k) i=some L:=by simp only[Ren.sub,hi,if_true];exact h
theorem U0{i o:Nat}(hi:k i=true):PK ρ k (.pointer (some ⟨i,o,none⟩)) (.pointer (some ⟨ρ i,o,none⟩)):=λι v' g=>by
 cases g with
 |ptr _ _ L h=>exact .ptr _ _ L (Ren.sub_some hi h)
theorem dg{i o:Nat}:Q8 ρ (.pointer (some ⟨i,o,none⟩)) (.pointer (some ⟨ρ i,o,none⟩)):=λι κ v' hm g=>by
 cases g with
 |ptr _ _ L h=>exact .ptr _ _ L (hm _ _ h)
theorem UZ{i o n c:Nat}(hi:k i=true):PK ρ k (.slice (some ⟨i,o,none⟩) n c) (.slice (some ⟨ρ i,o,none⟩) n c):=λι v' g=>by
 cases g with
 |slc _ _ _ _ L h=>exact .slc _ _ _ _ L (Ren.sub_some hi h)
theorem U1{i o n c:Nat}:Q8 ρ (.slice (some ⟨i,o,none⟩) n c) (.slice (some ⟨ρ i,o,none⟩) n c):=λι κ v' hm g=>by
 cases g with
 |slc _ _ _ _ L h=>exact .slc _ _ _ _ L (hm _ _ h)
theorem ER{i o e n c:Nat}(hi:k i=true):PK ρ k (.slice (some ⟨i,o,some e⟩) n c) (.slice (some ⟨ρ i,o,some e⟩) n c):=λι v' g=>by
 cases g with
 |loose _ _ _ _ _ _ L h hc ht=>exact .loose _ _ _ _ _ _ L (Ren.sub_some hi h) hc ht
 |loose0 _ _ _ _ _ L h ht=>exact .loose0 _ _ _ _ _ L (Ren.sub_some hi h) ht
 |empty=>exact .empty _ _ _ _
theorem WT{i o e n c:Nat}:Q8 ρ (.slice (some ⟨i,o,some e⟩) n c) (.slice (some ⟨ρ i,o,some e⟩) n c):=λι κ v' hm g=>by
 cases g with
 |loose _ _ _ _ _ _ L h hc ht=>exact .loose _ _ _ _ _ _ L (hm _ _ h) hc ht
 |loose0 _ _ _ _ _ L h ht=>exact .loose0 _ _ _ _ _ L (hm _ _ h) ht
 |empty=>exact .empty _ _ _ _
theorem WU(b:BI):PL ρ k .none b:=⟨λh=>h.elim,λh=>by simp[BI.own]at h,λ_ _ _ _ _=>trivial⟩
theorem WV(bs:BI):S6 ρ bs .none:=⟨λh=>h.elim,λh=>by simp[BI.own]at h,λ_ _ _ _ _ _ _=>trivial⟩
theorem MH{o:Bool}{cs c:List Value}(hl:cs.length=c.length)(h:∀(i:Nat) (x y:Value),cs[i]?=some x->c[i]?=some y->PK ρ k x y):PL ρ k (.cells o cs) (.cells o c):=by
 refine⟨λ_=>trivial,id,λB0 ι L w=>?_⟩
 rintro⟨rc,e,fr,h1,h2,h3,h4,h5⟩
 refine⟨rc,e,fr,h1,h2,by omega,λi v hv=>?_,h5⟩
 have hi:i<c.length:=by have:=(List.getElem?_eq_some_iff.1 hv).1;omega
 obtain⟨v',g1,g2⟩:=h4 i c[i] (List.getElem?_eq_getElem hi)
 exact⟨v',g1,h i v c[i] hv (List.getElem?_eq_getElem hi) ι v' g2⟩
theorem MI{o:Bool}{cs c:List Value}(hl:cs.length=c.length)(h:∀(i:Nat) (x y:Value),cs[i]?=some x->c[i]?=some y->Q8 ρ x y):S6 ρ (.cells o cs) (.cells o c):=by
 refine⟨λ_=>trivial,id,λB0 ι κ L w hm=>?_⟩
 rintro⟨rc,e,fr,h1,h2,h3,h4,h5⟩
 refine⟨rc,e,fr,h1,h2,by omega,λi v hv=>?_,h5⟩
 have hi:i<cs.length:=by have:=(List.getElem?_eq_some_iff.1 hv).1;omega
 obtain⟨v',g1,g2⟩:=h4 i cs[i] (List.getElem?_eq_getElem hi)
 exact⟨v',g1,h i cs[i] v (List.getElem?_eq_getElem hi) hv ι κ v' hm g2⟩
theorem El{o:Bool}{c:List Value}(h:∀x∈c,Free x):PL ρ k (.cells o c) (.cells o c):=
 MH rfl λi x y hx hy=>by
  rw[hx]at hy;cases hy;exact(h x (List.mem_of_getElem? hx)).sim ρ k
theorem Hz{o:Bool}{c:List Value}(h:∀x∈c,Free x):S6 ρ (.cells o c) (.cells o c):=
 MI rfl λi x y hx hy=>by
  rw[hx]at hy;cases hy;exact(h x (List.mem_of_getElem? hx)).emb ρ
end
end Go.DI
namespace Go.DI
open Go.RowKit
noncomputable section
theorem nr{p:Prop}(h:p):p:=by
 by_cases hp:p
 ·exact hp
 ·exact absurd h hp
section
variable{α:Type}
theorem AG{β:Type}(a b:β):cond true a b=a:=nr rfl
theorem BH{β:Type}(a b:β):cond false a b=b:=nr rfl
theorem Lc(v:Value)(m:Mem)(q:Value->Mem->Option α):Eb (some (v,m)) q=q v m:=nr rfl
theorem HS(b:Bool)(q:Bool->Option α)(d:Option α):Y.asBo (.bool b) q d=q b:=nr rfl
theorem Ju(a:Array Value)(q:Array Value->Option α):Y.asTup (.tuple a) q=q a:=nr rfl
theorem HT(a:Value)(l:List Value)(q:Value->List Value->Option α)(d:Option α):Y.unc (a::l) q d=q a l:=nr rfl
theorem Ng(q:Value->List Value->Option α)(d:Option α):Y.unc [] q d=d:=nr rfl
theorem BD(k:IntKind)(n:Int)(q:IntKind->Int->Option α)(d:Option α):Y.asInt (.int k n) q d=q k n:=nr rfl
theorem Dw(a:Option Addr)(n c:Nat)(q:Option Addr->Nat->Nat->Option α)(d:Option α):Y.asSl (.slice a n c) q d=q a n c:=nr rfl
theorem gC(a:Option Addr)(q:Option Addr->Option α)(d:Option α):Y.asPt (.pointer a) q d=q a:=nr rfl
theorem jI(a:Array Value)(q:Array Value->Option α)(d:Option α):Y.asAgg (.agg a) q d=q a:=nr rfl
theorem Bt(k:IntKind):Y.kEq k k=true:=by cases k<;>rfl
theorem BM{β γ:Type}(a:β)(d:γ)(f:β->γ):Option.elim (some a) d f=f a:=nr rfl
theorem AT(o:Bool)(c:List Value)(q:Bool->List Value->Option α):Y.cellsOf (.cells o c) q=q o c:=nr rfl
theorem Eh(n:Nat)(q:Nat->Option α):Y.onNat (n:Int) q=q n:=nr rfl
theorem nK(e:Ex)(t:AE)(m:Mem)(q:Y.ExK α):Y.onE (some (e,t,m)) q=q e t m:=nr rfl
theorem gA(df:FQ)(f:FuncId)(a:List Value)(m:Mem)(q:Value->Mem->Option α):Y.cfOf df f a m q=Eb (df f a m) q:=nr rfl
end
namespace Kit
theorem Bi{a b:Int}(h:a≠b):Y.eqF a b=false:=by rw[Y.eqF_eq];simp[h]
theorem Bf{a b:Int}(h:a=b):Y.eqF a b=true:=by rw[Y.eqF_eq];simp[h]
theorem Ee{a b:Int}(h:a<b):Y.ltF a b=true:=by rw[Y.ltF_eq];simp[h]
theorem C3{a b:Int}(h:¬a<b):Y.ltF a b=false:=by rw[Y.ltF_eq];simp[h]
theorem FO{i n:Nat}(h:i<n):Y.ltF (i:Int) (Int.ofNat n)=true:=Ee (by show(i:Int)< (n:Int);omega)
theorem I4{i n:Nat}(h:¬i<n):Y.ltF (i:Int) (Int.ofNat n)=false:=C3 (by show¬(i:Int)< (n:Int);omega)
theorem GY{a b:Nat}(h:a<b):Nat.blt a b=true:=by simpa[Nat.blt_eq]using h
theorem wrap64{x:Int}(h: -9223372036854775808<=x/\x<=9223372036854775807):IntKind.wrap .i64 x=x:=IntWalk.i64_in _ h
theorem Ca{i:Nat}(h:i<=1000000000):IntKind.wrap .i64 (Int.add (i:Int) (1:Int))=((i+1:Nat):Int):=IntWalk.i64_in _ (by show _<=(i:Int)+1/\(i:Int)+1<=_;omega)
theorem EE{body:AE->Mem->Option (Ex×AE×Mem)}{t t':AE}{m m':Mem}(k:Nat)(h:body t m=some (.normal,t',m')):B2 body (k+1) t m=B2 body k t' m':=by simp only[B2,h]
theorem Db{body:AE->Mem->Option (Ex×AE×Mem)}{t t':AE}{m m':Mem}{e:Ex}(k:Nat)(h:body t m=some (e,t',m'))(he:e≠ .normal):B2 body (k+1) t m=some (e,t',m'):=by
 simp only[B2,h]
 cases e with
 |normal=>exact absurd rfl he
 |exit id=>rfl
 |ret=>rfl
section
variable{P:Program}{K:TypeId->Bool}{G:Nat}
theorem Qh{f:FuncId}{v:Value}{m:Mem}(h:IP P f v=true):OE P f (some (v,m))=some (v,m):=by simp only[OE,h,cond_true]
theorem cJ{o:DT}{k:Nat}{f:FuncId}{a:List Value}{m m':Mem}{v:Value}(hk:1<=k)(h:o f a m=some (v,m'))(hok:IP P f v=true):AL P K G o k f a m=some (v,m'):=by
 obtain⟨k,rfl⟩:∃k',k=k'+1:=⟨k - 1,by omega⟩
 simp only[AL,h,Qh hok]
theorem Bs{o:DT}{k:Nat}{f:FuncId}{fn:Func}{c:Code}{args:List Value}{m m':Mem}{v:Value}(n:Nat)(ho:o f args m=none)(hf:P.funcs[f]?=some fn)(hc:fn.body=some c)(hn:max args.length fn.ntmps=n)
  (h:Y.codeF c P K G (Y.cfT P (Y.cfOf (AL P K G o k))) (Y.lpOf P K G (AL P K G o k) n) n k (AA n (CM args)) m (Y.retF P fn λv m=>some (v,m))=some (v,m')) (hok:IP P f v=true):
  AL P K G o (k+1) f args m=some (v,m'):=by
 simp only[AL,ho]
 rw[Y.body_eq (Y.callN_typed P K G o k) (c:=c) (fn:=fn) n hf hc args hn,h,Qh hok]
theorem EZ{o:DT}{k:Nat}{n:Nat}{c:Code}{t t':AE}{m m':Mem}{e:Ex} (h:Y.codeF c P K G (Y.cfT P (Y.cfOf (AL P K G o k))) (Y.lpOf P K G (AL P K G o k) n) n k t m Y.q0=some (e,t',m')):
  AH P K G (AL P K G o k) (A6 P K G (AL P K G o k) n) n k c t m=some (e,t',m'):=
 (Y.step_eq P K G (Y.callN_typed P K G o k) n k c t m).trans h
end
structure Ext(m m':Mem):Prop where
 size:m.size<=m'.size
 get:∀j,j<m.size->m'.get j=m.get j
 top:m.top->m'.top
theorem Ext.refl(m:Mem):Ext m m:=⟨Nat.le_refl _,λ_ _=>rfl,id⟩
theorem Ext.trans{a b c:Mem}(h:Ext a b)(k:Ext b c):Ext a c:=⟨Nat.le_trans h.size k.size,λj hj=>(k.get j (Nat.lt_of_lt_of_le hj h.size)).trans (h.get j hj),λt=>k.top (h.top t)⟩
theorem Ext.push(m:Mem)(x:BI):Ext m (m.push x):=⟨by simp,λj hj=>Mem.get_push_ne _ (by omega) _,λt j hj=>by
 simp at hj
 rw[Mem.get_push_ne _ (by omega)];exact t j (by omega)⟩
structure XZ(F:List Nat)(m m':Mem):Prop where
 size:m.size<=m'.size
 get:∀j,j<m.size->j∉F->m'.get j=m.get j
 top:m.top->m'.top
theorem XZ.refl(F:List Nat)(m:Mem):XZ F m m:=⟨Nat.le_refl _,λ_ _ _=>rfl,id⟩
theorem XZ.trans{F F':List Nat}{a b c:Mem}(h:XZ F a b)(k:XZ F' b c)(hF:∀j∈F',j<a.size->j∈F):XZ F a c:=
 ⟨Nat.le_trans h.size k.size,λj hj hn=>(k.get j (Nat.lt_of_lt_of_le hj h.size) λhm=>hn (hF j hm hj)).trans (h.get j hj hn),λt=>k.top (h.top t)⟩
theorem Ext.upd{m m':Mem}(h:Ext m m')(F:List Nat):XZ F m m':=⟨h.size,λj hj _=>h.get j hj,h.top⟩
theorem XZ.mono{F F':List Nat}{m m':Mem}(h:XZ F m m')(hF:∀j∈F,j∈F'):XZ F' m m':=⟨h.size,λj hj hn=>h.get j hj λhm=>hn (hF j hm),h.top⟩
theorem XZ.set{m:Mem}{b:Nat}{x:BI}(hb:b<m.size):XZ [b] m (m.set b x):=⟨Nat.le_refl _,λj _ hn=>Mem.get_set_ne _ (by simpa using hn) _,λt j hj=>by
 have hj:m.size<=j:=hj
 rw[Mem.get_set_ne _ (by omega)];exact t j hj⟩
theorem E6{m:Mem}{b n:Nat}{own:Bool}{c rest:List Value}(hm:m.get b= .cells own (c++rest))(hn:c.length=n):Ck m b 0 n=some c:=by
 subst hn
 unfold Ck
 rw[hm]
 simp
theorem Cn{P:Program}{m:Mem}{t:TypeId}{v:Value}{b off n:Nat}{c:List Value}(hs:Bh P t=some n)(hv:v.cells.toList.length=n)(hg:m.get b= .cells true c)(ho:off+n<=c.length)(h1:v.cells.toList.all one=true):
  Bx P m t v (.pointer (some ⟨b,off,none⟩))=some (m.set b (.cells true (splice c off v.cells.toList))):=by
 unfold Bx
 rw[hs]
 simp only[hv,if_true]
 unfold Df
 rw[hg]
 simp only[hv]
 rw[if_pos ho,h1,if_pos rfl]
section
variable{P:Program}{t e:TypeId}{z by_:Nat}
theorem append_nil{m:Mem}{x:Value}{n:Nat}{new:List Value}(hu:P.underlying t=some (.slice e))(hs:Bh P e=some z)(hz:z≠0)(hb:bytesOf P e=some by_)(hb0:0<by_)(h0:(D5 P e 1).isSome=true)
  (hl:lenOf x=some n) (hn:0<n) (hbig:n*by_<=140737488355328/\n<=4611686018427387904) (hf:CG m z n x=some new) (hnl:new.length=n*z) (h1:new.all one=true):
  Bp P m t t (.slice none 0 0) x=some (.slice (some ⟨m.size,0,some z⟩) n n,m.push (.cells true new)):=by
 have hf0:CG m z 0 (.slice none 0 0)=some []:=rfl
 unfold Bp
 simp only[hu,hs,hb,hl,hf,hf0]
 rw[if_neg hz,if_neg (by omega),if_pos ⟨by rw[Nat.zero_add];exact hbig.1,by omega,hb0,h0⟩,if_pos ⟨by rw[h1];rfl,by simp,hnl⟩]
 simp
theorem Iq{m:Mem}{bk k n:Nat}{x:Value}{old new:List Value}(hu:P.underlying t=some (.slice e))(hs:Bh P e=some z)(hz:z≠0)(hb:bytesOf P e=some by_)(hb0:0<by_)(h0:(D5 P e 1).isSome=true)
  (hg:m.get bk= .cells true old) (hol:old.length=k*z) (h2:old.all one=true)
  (hl:lenOf x=some n) (hn:0<n) (hbig:(k+n)*by_<=140737488355328/\k+n<=4611686018427387904) (hf:CG m z n x=some new) (hnl:new.length=n*z) (h1:new.all one=true):
  Bp P m t t (.slice (some ⟨bk,0,some z⟩) k k) x=some (.slice (some ⟨m.size,0,some z⟩) (k+n) (k+n),(m.push (.cells true (old++new))).set bk .none):=by
 have hf0:CG m z k (.slice (some ⟨bk,0,some z⟩) k k)=some old:=E6 (rest:= []) (by rw[List.append_nil];exact hg) hol
 unfold Bp
 simp only[hu,hs,hb,hl,hf,hf0]
 rw[if_neg hz,if_neg (by omega),if_pos ⟨hbig.1,by omega,hb0,h0⟩,if_pos ⟨by rw[h1,h2];rfl,hol,hnl⟩,if_pos trivial]
 simp only[hg]
end
section
variable{α:Type}
def QD:Code->Bool
 | .region _ _ _=>true
 |_=>false
def D7(s:List Nat):Code->Code
 | .region i ops d=>cond (s.any (Nat.beq i)) (.loop (.region i ops d)) (.region i ops d)
 | .seq a b=> .seq (D7 s a) (D7 s b)
 | .cond c a b=> .cond c (D7 s a) (D7 s b)
 | .block j c=> .block j (D7 s c)
 |c=>c
def NT:Code->Bool
 | .region _ _ _=>true
 | .seq a b=>NT a && NT b
 | .cond _ a b=>NT a && NT b
 | .block _ c=>NT c
 | .loop c=> !QD c
 | .skip=>true
 | .exit _=>true
 | .ret=>true
 |_=>false
def GR(L:Y.LK α):Y.LK α:=λbody c k t m q=>cond (QD c) (body t m q) (L body c k t m q)
theorem Xw(L:Y.LK α)(body:AE->Mem->Y.ExK α->Option α){c:Code}(h:QD c=true)(k:Nat)(t:AE)(m:Mem)(q:Y.ExK α):GR L body c k t m q=body t m q:=by unfold GR;rw[h];rfl
theorem Ei(L:Y.LK α)(body:AE->Mem->Y.ExK α->Option α){c:Code}(h:QD c=false)(k:Nat)(t:AE)(m:Mem)(q:Y.ExK α):GR L body c k t m q=L body c k t m q:=by unfold GR;rw[h];rfl
theorem B5(s:List Nat)(P:Program)(K:TypeId->Bool)(G:Nat)(cf:Y.CF α)(L:Y.LK α)(hL:∀b b' c k t m q,L b c k t m q=L b' c k t m q)(n k:Nat):∀(c:Code),NT c=true->∀(t:AE) (m:Mem) (q:Y.ExK α),Y.codeF c P K G cf L n k t m q=Y.codeF (D7 s c) P K G cf (GR L) n k t m q:=by
 intro c
 induction c with
 |skip=>intros;rfl
 |exit=>intros;rfl
 |ret=>intros;rfl
 |region i ops d=>
  intro _ t m q;unfold D7;cases s.any (Nat.beq i)<;>rfl
 |seq a b ia ib=>
  intro h t m q;simp only[NT,Bool.and_eq_true]at h;refine(ia h.1 ..).trans ?_;show _=Y.codeF (D7 s a) P K G cf (GR L) n k t m λe t m=>Ex.rec (motive:=λ_=>Option α) (Y.codeF (D7 s b) P K G cf (GR L) n k t m q) (λid=>q (.exit id) t m) (q .ret t m) e;congr 1;funext e t m;cases e with
  |normal=>exact ib h.2 ..
  |exit=>rfl
  |ret=>rfl
 |cond c a b ia ib=>
  intro h t m q;simp only[NT,Bool.and_eq_true]at h;show Y.evF c G t (λv=>Y.asBool v (Y.codeF a P K G cf L n k t m q) (Y.codeF b P K G cf L n k t m q))=Y.evF c G t (λv=>Y.asBool v (Y.codeF (D7 s a) P K G cf (GR L) n k t m q) (Y.codeF (D7 s b) P K G cf (GR L) n k t m q));rw[ia h.1,ib h.2]
 |block j c ic=>
  intro h t m q;simp only[NT]at h;exact ic h ..
 |loop c ic=>
  intro h t m q;simp only[NT,Bool.not_eq_true']at h;show L (λt m q=>Y.codeF c P K G cf L n k t m q) c k t m q=GR L (λt m q=>Y.codeF c P K G cf (GR L) n k t m q) c k t m q;rw[Ei _ _ h];exact hL _ _ _ _ _ _ _
 |_=>intro h;cases h
theorem Qi(P:Program)(K:TypeId->Bool)(G:Nat)(cf:Y.CF α)(n:Nat)(ops l2:List Oper)(q:AE->Mem->Option α):∀(l1:List Oper) (t:AE) (m:Mem),Y.opsF (l1++l2) P K G cf n ops t m q=Y.opsF l1 P K G cf n ops t m λt m=>Y.opsF l2 P K G cf n ops t m q
 | [],t,m=>rfl
 |o::l,t,m=>by
  have ih:=Qi P K G cf n ops l2 q l
  show Bool.rec (motive:=λ_=>Option α) none (Bool.rec (motive:=λ_=>Option α) (Y.putOF t o.dst undef λt'=>Y.opsF (l++l2) P K G cf n ops t' m q)
   (Y.opF o.op P K G cf t m λv m'=>Y.putOF t o.dst v λt'=>Y.opsF (l++l2) P K G cf n ops t' m' q) (Y.wantF o ops t)) (Y.dstF n o.dst)=_
  simp only[ih];rfl
theorem Cc(i:Nat)(P:Program)(K:TypeId->Bool)(G:Nat)(cf:Y.CF α)(n:Nat)(l ops:List Oper)(q:AE->Mem->Option α)(t:AE)(m:Mem):Y.opsF l P K G cf n ops t m q=Y.opsF (l.take i) P K G cf n ops t m λt m=>Y.opsF (l.drop i) P K G cf n ops t m q:=by
 rw[←Qi,List.take_append_drop]
end
end Kit
end
end Go.DI
namespace Go.DI
namespace Kit
noncomputable section
def J5(M:Mem)(d:Nat):Mem:=⟨λj=>if j<M.size then M.get j else .none, .nil,M.size+d⟩
theorem Eo(M:Mem)(d j:Nat):(J5 M d).get j=if j<M.size then M.get j else .none:=by simp only[Mem.get,J5,Tr.get_nil]
theorem OJ(M:Mem)(d:Nat):(J5 M d).top:=λj hj=>by
 have hj:M.size+d<=j:=hj
 rw[Eo,if_neg (by omega)]
theorem Vm(M:Mem)(d:Nat):Ext M (J5 M d):=⟨by show M.size<=M.size+d;omega,λj hj=>by rw[Eo,if_pos hj],λ_=>OJ M d⟩
def mG(gl:List Value):Mem:=m0.push (.cells false gl)
theorem mG_get(gl:List Value):(mG gl).get 0= .cells false gl:=Mem.get_push_same _ _
theorem mG_size(gl:List Value):(mG gl).size=1:=rfl
theorem mG_top(gl:List Value):(mG gl).top:=λj hj=>by
 have hj:1<=j:=hj
 unfold mG
 rw[Mem.get_push_ne _ (by show j≠0;omega)]
 rfl
theorem Mj{ρ:Nat->Nat}{A:Nat->Bool}:∀{l:List Value},(∀x∈l,Free x)->Gf ρ A l l
 | [],_=> .nil
 |x::l,h=> .cons ((h x (List.mem_cons_self ..)).sim ρ A) (Mj λy hy=>h y (List.mem_cons_of_mem _ hy))
section
variable(P:Program)(K:TypeId->Bool)(gl:List Value)
open Classical in
def Ok(R:FuncId->List Value->Mem->Option (Value×Mem))(f:FuncId)(args:List Value)(M:Mem):Option (Value×Mem):=
 if M.top/\1<=M.size/\M.get 0= .cells false gl/\∀x∈args,Free x then
  match R f args (mG gl)with
  |some (v,m)=>if Free v/\m.get 0= .cells false gl then some (v,J5 M (m.size - 1))else none
  |none=>none
 else none
end
variable{P:Program}{K:TypeId->Bool}{gl:List Value}
def rY(M:Mem)(i:Nat):Nat:=match i with|0=>0|i+1=>M.size+i
theorem UN{B0:Nat}{R:FuncId->List Value->Mem->Option (Value×Mem)}(hg:∀x∈gl,Free x)(hR:CT P B0 1 R)(hRg:Bc R)
  {f:FuncId} {args:List Value} {M M':Mem} {v:Value} (h:Ok gl R f args M=some (v,M')):Dr P B0 1 f args M v M'/\Dx M M':=by
 unfold Ok at h
 split at h<;>try (simp at h;done)
 rename_i hc
 obtain⟨ht,h1,h0,ha⟩:=hc
 split at h<;>try (simp at h;done)
 rename_i v0 m hrun
 split at h<;>simp at h
 rename_i hv
 obtain⟨hv,h00⟩:=hv
 obtain⟨rfl,rfl⟩:=h
 have hgr:=hRg _ _ _ _ _ hrun
 have hsz:=hgr.size
 rw[mG_size]at hsz
 have hA:∀i:Nat,Nat.beq i 0=true->i=0:=λi hi=>Nat.eq_of_beq_eq_true hi
 have hloc:Local (rY M) (λi=>Nat.beq i 0) (mG gl) m M (J5 M (m.size - 1)):=by
  refine⟨λi hi=>(by rw[hA i hi,mG_size];omega),hgr,mG_top gl,OJ M _,λi hi=>(by rw[hA i hi];exact h1),λi j hi hj _ _ _=>(by rw[hA i hi,hA j hj]),λi h1 _=>?_,(by rw[mG_size];rfl),λi hi=>?_,λi h1 h2=>?_,λj hj _=>?_⟩
  ·rw[mG_size]at h1 ⊢;obtain⟨k,rfl⟩:∃k,i=k+1:=⟨i - 1,by omega⟩;rfl
  ·rw[hA i hi,mG_get];show PL _ _ _ (M.get 0);rw[h0];exact El hg
  ·by_cases hi:i=0
   ·subst hi;right;rw[h00];show S6 _ _ ((J5 M _).get 0);rw[Eo,if_pos (by omega),h0];exact Hz hg
   ·left;obtain⟨k,rfl⟩:∃k,i=k+1:=⟨i - 1,by omega⟩;show(J5 M _).get (M.size+k)=_;rw[Eo,if_neg (by omega)]
  ·rw[Eo,if_pos hj]
 refine⟨Yf 1 (λg hg=>⟨hg,by
  obtain rfl:g=0:=by omega
  rfl,by
   obtain rfl:g=0:=by omega
   rfl⟩) (hR.ok _ _ _ _ _ hrun) hloc (Mj ha) (hv.emb _),⟨by show M.size<=M.size+_;omega,λ_=>hloc.top',λj hj hl=>?_,λj hj ho=>?_⟩⟩
 ·rw[Eo,if_pos hj]at hl;exact hl
 ·rw[Eo,if_pos hj]at ho;exact ho
theorem cL{R:FuncId->List Value->Mem->Option (Value×Mem)}{f:FuncId}{args:List Value}{M m:Mem}{v:Value}(ht:M.top)(h1:1<=M.size)(h0:M.get 0= .cells false gl)(ha:∀x∈args,Free x)(h:R f args (mG gl)=some (v,m))(hv:Free v)(h00:m.get 0= .cells false gl):
  Ok gl R f args M=some (v,J5 M (m.size - 1)):=by
 unfold Ok
 rw[if_pos ⟨ht,h1,h0,ha⟩,h]
 exact if_pos ⟨hv,h00⟩
theorem cH{k:Nat}{f:FuncId}{args:List Value}{m:Mem}{v:Value}{b:BI}(h:Y.callK P K 1 k f args m (λv m=>some (v,m.get 0))=some (v,b)):∃m',Cr P K 1 k f args m=some (v,m')/\m'.get 0=b:=by
 rw[Y.callK_eq]at h
 cases hc:Cr P K 1 k f args m with
 |none=>rw[hc]at h;cases h
 |some r=>
  obtain⟨v',m'⟩:=r;rw[hc]at h;have h:=Option.some.inj h;cases h;exact⟨m',rfl,rfl⟩
end
end Kit
end Go.DI
namespace Go.Cmp
open Go Go.DI
structure B1 where
 op:Int
 dst:Int
 src:Int
 off:Int
 imm:Int
 deriving DecidableEq
def B1.zero:B1:=⟨0,0,0,0,0⟩
def AP(x:B1):List Value:= [.int .u8 x.op, .int .u8 x.dst, .int .u8 x.src, .int .i16 x.off, .int .i32 x.imm]
structure A7 where
 neg:Bool
 kind:Int
 pos:Int
 size:Int
 mask:Int
 lo:Int
 hi:Int
structure A5 where
 tests:List A7
 verdict:Int
structure A9 where
 i:B1
 to:Nat
 here:Nat
def ins(x:B1)(to:Nat):A9:=⟨x,to,0⟩
def lab(l:Nat):A9:=⟨.zero,0,l⟩
def GZ(n:Int):Int:=IntKind.wrap .i16 n
def Jq(n:Int):Int:=IntKind.wrap .i32 n
def DE(op r n:Int):B1:=⟨16*op+7,r,0,0,n⟩
def Ba(op r s:Int):B1:=⟨16*op+15,r,s,0,0⟩
def G3(n:Int):B1:=⟨180,0,0,0,n⟩
def DC:B1:=⟨149,0,0,0,0⟩
def Bj(n:Int):B1:=⟨24,3,0,0,Jq (n % 4294967296)⟩
def Cp(n:Int):B1:=⟨0,0,0,0,Jq (n / 4294967296)⟩
def Xz(size:Int):Int:=if size=4 then 0 else if size=2 then 1 else if size=1 then 2 else 3
def BG(size r s off:Int):B1:=⟨97+8*Xz size,r,s,GZ off,0⟩
def Cw(op r n:Int):B1:=⟨16*op+5,r,0,0,n⟩
def Ec(op:Int):B1:=⟨16*op+13,2,3,0,0⟩
def Bm:B1:=⟨5,0,0,0,0⟩
def C0(size:Int):B1:=⟨215,2,0,0,8*size⟩
def AZ:List A9:= [ins (DE 11 2 0) 0,ins (DE 11 3 0) 0,ins (BG 4 8 6 0) 0]
def C9(a:Nat)(n:Int)(out:Nat):List A9:= [ins (Cw 3 8 (Jq n)) a,ins Bm out,lab a]
def D6(op n:Int)(out:Nat):List A9:=if n<2147483648 then [ins (Cw op 2 n) out]else [ins (Bj n) 0,ins (Cp n) 0,ins (Ec op) out]
def CR(t:A7)(out d:Nat):Nat->Nat->Nat->List A9
 |0,_,_=> []
 |m+1,k,n=>
  [ins (Cw 5 2 k) (if k=15 then out else n+1)]++C9 (n+2) (14+4*(k:Int)+t.pos+t.size) out++ [ins (BG t.size 2 7 (14+4*(k:Int)+t.pos)) 0,ins Bm d,lab (n+1)]++CR t out d m (k+1) (n+2)
def BX(size:Int):Int:=if size=8 then 18446744073709551615 else if size=4 then 4294967295 else if size=2 then 65535 else 255
def BS(t:A7):Bool:=decide (t.kind=3)||decide (t.kind=4)
def FC(t:A7)(n:Nat):List A9:=
 if t.kind=1 then [ins (Ba 11 2 8) 0]
 else if t.kind=2 then [ins (BG 4 2 6 4) 0]
 else if t.kind=3 then C9 (n+3) (t.pos+t.size) (n+1)++ [ins (BG t.size 2 7 t.pos) 0]
 else C9 (n+4) 15 (n+1)++ [ins (BG 1 2 7 14) 0,ins (DE 5 2 15) 0]++CR t (n+1) (n+3) 16 0 (n+4)++ [lab (n+3)]
def EU(t:A7)(n:Nat):Nat:=if t.kind=1\/t.kind=2 then n+2 else if t.kind=3 then n+3 else n+4+32
def D9(t:A7):List A9:=
 if BS t=true then
  (if 1<t.size then [ins (C0 t.size) 0]else [])++
  (if t.mask=BX t.size then []else if t.mask<2147483648 then [ins (DE 5 2 t.mask) 0]else [ins (Bj t.mask) 0,ins (Cp t.mask) 0,ins (Ba 5 2 3) 0])
 else []
def ED(t:A7)(out:Nat):List A9:=
 (if 0<t.lo then D6 10 t.lo out else [])++(if BS t=false\/t.hi≠BX t.size then D6 2 t.hi out else [])
def endS(t:A7)(out G9 fail:Nat):List A9:=
 if t.neg=true then AZ++ [ins Bm fail,lab out,lab G9]else [ins Bm G9,lab out]++AZ++ [ins Bm fail,lab G9]
def FD(t:A7)(fail n:Nat):List A9:=AZ++FC t n++D9 t++ED t (n+1)++endS t (n+1) (n+2) fail
def CK(fail:Nat):List A7->Nat->List A9
 | [],_=> []
 |t::l,n=>FD t fail n++CK fail l (EU t n)
def Cl:List A7->Nat->Nat
 | [],n=>n
 |t::l,n=>Cl l (EU t n)
def EX(v:Int):List A9:= [ins (G3 (Jq v)) 0,ins DC 0]
def G0(r:A5)(n:Nat):List A9:=AZ++(if r.tests= []then [ins (Cw 5 2 0) (n+1)]else [])++CK (n+1) r.tests (n+1)++EX r.verdict++ [lab (n+1)]
def Bv:List A5->Nat->List A9
 | [],_=> []
 |r::l,n=>G0 r n++Bv l (Cl r.tests (n+1))
def O9:List A5->Nat->Nat
 | [],n=>n
 |r::l,n=>O9 l (Cl r.tests (n+1))
def BF(l:List A5):List A9:= [ins (Ba 11 6 1) 0,ins (BG 8 7 1 8) 0]++Bv l 0++AZ++EX 0
def BY(r:A9):Bool:=decide (0<r.here)
def BU:List A9->Nat
 | []=>0
 |r::l=>if BY r=true then BU l else BU l+1
theorem Bb:∀(a b:List A9),BU (a++b)=BU a+BU b
 | [],b=>by simp[BU]
 |r::a,b=>by
  simp only[List.cons_append,BU,Bb a b];split<;>omega
def Gm:List A9->Nat->(Nat->Nat)->Nat->Nat
 | [],_,f=>f
 |r::l,n,f=>if BY r=true then Gm l n (λj=>if j=r.here then n else f j)else Gm l (n+1) f
def JM(l:List A9):Nat->Nat:=Gm l 0 λ_=>0
def SD(q n:Nat)(x:B1):B1:={x with off:=GZ ((q:Int) - n - 1)}
def C1(f:Nat->Option Nat):List A9->Nat->List B1
 | [],_=> []
 |r::l,n=>if BY r=true then C1 f l n else(match(if 0<r.to then f r.to else none)with|some q=>SD q n r.i|none=>r.i)::C1 f l (n+1)
def B6(l:List A9):List B1:=C1 (λj=>some (JM l j)) l 0
theorem Dn(f:Nat->Option Nat):∀(a b:List A9) (n:Nat),C1 f (a++b) n=C1 f a n++C1 f b (n+BU a)
 | [],b,n=>by simp[C1,BU]
 |r::a,b,n=>by
  simp only[List.cons_append,C1,BU];split
  ·exact Dn f a b n
  ·rw[Dn f a b (n+1),List.cons_append];congr 2;rw[show n+1+BU a=n+(BU a+1)by omega]
theorem Bo(f:Nat->Option Nat):∀(a:List A9) (n:Nat),(C1 f a n).length=BU a
 | [],n=>rfl
 |r::a,n=>by
  simp only[C1,BU];split
  ·exact Bo f a n
  ·simp[Bo f a (n+1)]
def Bk(l:Nat):List A9->Nat->List Nat
 | [],_=> []
 |r::a,n=>if BY r=true then Bk l a n else(if r.to=l then [n]else [])++Bk l a (n+1)
theorem Ew(l:Nat):∀(a b:List A9) (n:Nat),Bk l (a++b) n=Bk l a n++Bk l b (n+BU a)
 | [],b,n=>by simp[Bk,BU]
 |r::a,b,n=>by
  simp only[List.cons_append,Bk,BU];split
  ·exact Ew l a b n
  ·rw[Ew l a b (n+1),List.append_assoc,show n+1+BU a=n+(BU a+1)by omega]
def JU(c:List B1)(p:Nat)(f:B1->B1):List B1:=match c,p with
 | [],_=> []
 |x::c,0=>f x::c
 |x::c,p+1=>x::JU c p f
theorem GC(f:B1->B1):∀(c:List B1) (p:Nat),(JU c p f).length=c.length
 | [],_=>rfl
 |x::c,0=>rfl
 |x::c,p+1=>by simp[JU,GC f c p]
def Ct(q n:Nat):List Nat->List B1->List B1
 | [],c=>c
 |p::J,c=>Ct q n J (JU c (p - n) (SD q p))
theorem Gr(q n:Nat)(x:B1):∀(J:List Nat) (c:List B1),(∀p∈J,n+1<=p)->Ct q n J (x::c)=x::Ct q (n+1) J c
 | [],c,_=>rfl
 |p::J,c,h=>by
  have hp:=h p (by simp);simp only[Ct];obtain⟨d,hd⟩:∃d,p - n=d+1:=⟨p - n - 1,by omega⟩;rw[hd,show p - (n+1)=d by omega];simp only[JU];exact Gr q n x J _ λp hp=>h p (by simp[hp])
theorem KI(l:Nat):∀(a:List A9) (n:Nat),∀p∈Bk l a n,n<=p
 | [],n,p,h=>by simp[Bk]at h
 |r::a,n,p,h=>by
  simp only[Bk]at h;split at h
  ·exact KI l a n p h
  ·rcases List.mem_append.1 h with h|h
   ·split at h
    ·simp at h;omega
    ·simp at h
   ·have:=KI l a (n+1) p h;omega
theorem KF(l:Nat):∀(a:List A9) (n:Nat),∀p∈Bk l a n,p<n+BU a
 | [],n,p,h=>by simp[Bk]at h
 |r::a,n,p,h=>by
  simp only[Bk]at h;simp only[BU];split at h
  ·rename_i hl;rw[if_pos hl];exact KF l a n p h
  ·rename_i hl;rw[if_neg hl];rcases List.mem_append.1 h with h|h
   ·split at h
    ·simp at h;omega
    ·simp at h
   ·have:=KF l a (n+1) p h;omega
def Ot(f:Nat->Option Nat)(l q:Nat):Nat->Option Nat:=λj=>if j=l then some q else f j
theorem I9(f:Nat->Option Nat)(l q:Nat)(hl:0<l):∀(a:List A9) (n:Nat),Ct q n (Bk l a n) (C1 f a n)=C1 (Ot f l q) a n
 | [],n=>rfl
 |r::a,n=>by
  simp only[Bk,C1];split
  ·exact I9 f l q hl a n
  ·have ih:=I9 f l q hl a (n+1);have hge:=KI l a (n+1);by_cases ht:r.to=l
   ·rw[if_pos ht];simp only[List.cons_append,List.nil_append,Ct,Nat.sub_self,JU];rw[Gr q n _ _ _ hge,ih];congr 1;have h0:0<r.to:=by omega
    simp only[h0,if_true,Ot,ht,hl];cases f l<;>rfl
   ·rw[if_neg ht];simp only[List.nil_append];rw[Gr q n _ _ _ hge,ih];congr 1;by_cases h0:0<r.to
    ·simp[h0,Ot,ht]
    ·simp[h0]
theorem Ib(f g:Nat->Option Nat):∀(a:List A9) (n:Nat),(∀r∈a,BY r=false->0<r.to->f r.to=g r.to)->C1 f a n=C1 g a n
 | [],n,_=>rfl
 |r::a,n,h=>by
  simp only[C1];split
  ·exact Ib f g a n λr hr=>h r (by simp[hr])
  ·rename_i hl;rw[Ib f g a (n+1) λr hr=>h r (by simp[hr])];congr 2;by_cases h0:0<r.to
   ·rw[if_pos h0,if_pos h0,h r (by simp) (by simpa using hl) h0]
   ·rw[if_neg h0,if_neg h0]
def AD(c:List B1):List Value:=c.flatMap AP
theorem Fk(x:B1):(AP x).length=5:=rfl
theorem YM(x:B1):(AP x).all one=true:=rfl
theorem Hr:∀c:List B1,(AD c).length=c.length*5
 | []=>rfl
 |x::c=>by
  have ih:=Hr c;simp only[AD]at ih;simp only[AD,List.flatMap_cons,List.length_append,ih,Fk,List.length_cons];omega
theorem No:∀c:List B1,(AD c).all one=true
 | []=>rfl
 |x::c=>by
  show(AP x++AD c).all one=true;rw[List.all_append,YM,No c];rfl
theorem Nn(q:Nat):∀(c:List B1) (p n:Nat),p<c.length->splice (AD c) (p*5+3) [.int .i16 (GZ ((q:Int) - n - 1))]=AD (JU c p (SD q n))
 | [],p,n,h=>by simp at h
 |x::c,0,n,h=>by
  show splice (AP x++AD c) 3 _=AP (SD q n x)++AD c;rfl
 |x::c,p+1,n,h=>by
  have ih:=Nn q c p n (by simpa using h);have e:(p+1)*5+3=(AP x).length+(p*5+3):=by rw[Fk];omega
  show splice (AP x++AD c) _ _=AP x++AD (JU c p (SD q n));rw[←ih,e];unfold splice;rw[List.take_length_add_append,show(AP x).length+(p*5+3)+ [Value.int .i16 (GZ ((q:Int) - n - 1))].length=(AP x).length+(p*5+3+ [Value.int .i16 (GZ ((q:Int) - n - 1))].length)by omega,List.drop_length_add_append,List.append_assoc]
end Go.Cmp
namespace Go.Proofs.YtgjflcgmieiafaaDoor
open Go Go.DI Go.DI.Kit Go.Proofs Go.Cmp
noncomputable section
def kp:TypeId->Bool:=X1 [70,71,84,85,87,88,99,100]
theorem hK:Plain Tryd.prog kp:=Ps (by kernel_rfl)
theorem FZ:O2 Tryd.prog:=bS (by kernel_rfl)
def gl:List Value:= [.int .i64 4, .int .i64 2, .int .i64 1, .int .i64 8]
def AR(t:A7):List Value:= [.bool t.neg, .int .i64 t.kind, .int .i64 t.pos, .int .i64 t.size, .int .u64 t.mask, .int .u64 t.lo, .int .u64 t.hi]
end
end Go.Proofs.YtgjflcgmieiafaaDoor
namespace Go.DI
namespace Kit
noncomputable section
variable{α:Type}
end
end Kit
end Go.DI
namespace Go.DI
namespace Kit
noncomputable section
def PJ(ρ:Nat->Nat):Value->Value
 | .slice (some ⟨b,o,sp⟩) n c=> .slice (some ⟨ρ b,o,sp⟩) n c
 | .pointer (some ⟨b,o,none⟩)=> .pointer (some ⟨ρ b,o,none⟩)
 |v=>v
def bL:Value->Bool
 | .slice _ _ _=>true
 | .pointer none=>true
 | .pointer (some ⟨_,_,none⟩)=>true
 | .int _ _=>true
 | .bool _=>true
 | .string _=>true
 | .tuple ⟨[]⟩=>true
 |_=>false
def seenV(nb:Nat):Value->Bool
 | .slice (some a) _ _=>Nat.blt a.block nb
 | .pointer (some a)=>Nat.blt a.block nb
 |_=>true
theorem MG:Free (.tuple ⟨[]⟩):=Ej (by intro x hx;simp at hx)
theorem UY{ρ:Nat->Nat}{nb:Nat}{v:Value}(h:bL v=true)(hs:seenV nb v=true):PK ρ (λi=>Nat.blt i nb) v (PJ ρ v):=by
 unfold bL at h
 split at h<;>try (simp at h;done)
 ·rename_i a n c;cases a with
  |none=>exact(EP _ _).sim _ _
  |some a=>
   obtain⟨b,o,sp⟩:=a;cases sp with
   |none=>exact UZ (ρ:=ρ) hs
   |some e=>exact ER (ρ:=ρ) hs
 ·exact Ny.sim _ _
 ·exact U0 (ρ:=ρ) hs
 ·exact(Cq _ _).sim _ _
 ·exact(D4 _).sim _ _
 ·exact(Km _).sim _ _
 ·exact MG.sim _ _
theorem de{ρ:Nat->Nat}{v:Value}(h:bL v=true):Q8 ρ v (PJ ρ v):=by
 unfold bL at h
 split at h<;>try (simp at h;done)
 ·rename_i a n c;cases a with
  |none=>exact(EP _ _).emb _
  |some a=>
   obtain⟨b,o,sp⟩:=a;cases sp with
   |none=>exact U1 (ρ:=ρ)
   |some e=>exact WT (ρ:=ρ)
 ·exact Ny.emb _
 ·exact dg (ρ:=ρ)
 ·exact(Cq _ _).emb _
 ·exact(D4 _).emb _
 ·exact(Km _).emb _
 ·exact MG.emb _
def GU(ρ:Nat->Nat):BI->BI
 | .cells o c=> .cells o (c.map (PJ ρ))
 |_=> .none
def okB:BI->Prop
 | .cells _ c=>∀v∈c,bL v=true
 | .none=>True
 |_=>False
def seenB(nb:Nat):BI->Prop
 | .cells _ c=>∀v∈c,seenV nb v=true
 |_=>True
theorem bsim_ren{ρ:Nat->Nat}{nb:Nat}{b:BI}(h:okB b)(hs:seenB nb b):PL ρ (λi=>Nat.blt i nb) b (GU ρ b):=by
 cases b with
 |none=>exact WU _
 |map=>exact h.elim
 |siter=>exact h.elim
 |cells o c=>
  refine MH (by simp) λi x y hx hy=>?_;rw[List.getElem?_map,hx]at hy;simp only[Option.map_some,Option.some.injEq]at hy;subst hy;have hm:=List.mem_of_getElem? hx;exact UY (h x hm) (hs x hm)
theorem Q9{ρ:Nat->Nat}{b:BI}(h:okB b):S6 ρ b (GU ρ b):=by
 cases b with
 |none=>exact WV _
 |map=>exact h.elim
 |siter=>exact h.elim
 |cells o c=>
  refine MI (by simp) λi x y hx hy=>?_;rw[List.getElem?_map,hx]at hy;simp only[Option.map_some,Option.some.injEq]at hy;subst hy;exact de (h x (List.mem_of_getElem? hx))
def mS(gl:List Value)(ss:List BI):Mem:=ss.foldl Mem.push (mG gl)
theorem D0:∀(ss:List BI) (m:Mem),(ss.foldl Mem.push m).size=m.size+ss.length
 | [],m=>rfl
 |x::ss,m=>by rw[List.foldl_cons,D0 ss];simp;omega
theorem CV:∀(ss:List BI) (m:Mem) (j:Nat),(ss.foldl Mem.push m).get j=if j<m.size then m.get j else(match ss[j - m.size]? with|some x=>x|none=>m.get j)
 | [],m,j=>by simp
 |x::ss,m,j=>by
  rw[List.foldl_cons,CV ss,Mem.size_push,Mem.get_push];by_cases h1:j<m.size
  ·rw[if_pos (by omega),if_neg (by omega),if_pos h1]
  ·rw[if_neg h1];by_cases h2:j=m.size
   ·subst h2;simp
   ·rw[if_neg (by omega),if_neg h2,show j - m.size=(j - (m.size+1))+1 by omega];rfl
def DQ(bs:List Nat)(M:Mem)(i:Nat):Nat:=match i with|0=>0|i+1=>match bs[i]? with|some b=>b|none=>M.size+(i - bs.length)
structure Fits(gl:List Value)(bs:List Nat)(ss:List BI)(M:Mem):Prop where
 top:M.top
 gl0:M.get 0= .cells false gl
 pos:1<=M.size
 len:bs.length=ss.length
 lt:∀b∈bs,b<M.size
 nz:0∉bs
 nd:bs.Nodup
 at_:∀(i b:Nat) (s:BI),bs[i]?=some b->ss[i]?=some s->M.get b=GU (DQ bs M) s
 ok:∀s∈ss,okB s/\seenB (1+bs.length) s
section
variable{P:Program}{K:TypeId->Bool}{gl:List Value}
end
end
end Kit
end Go.DI
namespace Go.DI
namespace Kit
noncomputable section
variable{α:Type}
def CE(id:Nat):Code->List Oper
 | .region i ops _=>cond (Nat.beq i id) ops.toList []
 | .seq a b=>match CE id a with| []=>CE id b|l=>l
 | .cond _ a b=>match CE id a with| []=>CE id b|l=>l
 | .block _ c=>CE id c
 | .loop c=>CE id c
 |_=> []
theorem OI(P:Program)(K:TypeId->Bool)(G:Nat)(cf:Y.CF α)(n:Nat)(ops:List Oper)(q:AE->Mem->Option α):∀(l:List Oper) (t:AE) (m:Mem) (q':List Rec->AE->Mem->Option α),(∀rs t m,q' rs t m=q t m)->Y.recF l P K G cf n ops t m q'=Y.opsF l P K G cf n ops t m q
 | [],t,m,q',h=>h [] t m
 |o::l,t,m,q',h=>by
  have ih:=OI P K G cf n ops q l
  show Bool.rec (motive:=λ_=>Option α) none (Bool.rec (motive:=λ_=>Option α) (Y.putOF t o.dst undef λt'=>Y.recF l P K G cf n ops t' m λrs t' m''=>q' (⟨false,undef,t,m⟩::rs) t' m'')
   (Y.opF o.op P K G cf t m λv m'=>Y.putOF t o.dst v λt'=>Y.recF l P K G cf n ops t' m' λrs t' m''=>q' (⟨true,v,t,m⟩::rs) t' m'') (Y.wantF o ops t)) (Y.dstF n o.dst)
   =Bool.rec (motive:=λ_=>Option α) none (Bool.rec (motive:=λ_=>Option α) (Y.putOF t o.dst undef λt'=>Y.opsF l P K G cf n ops t' m q)
   (Y.opF o.op P K G cf t m λv m'=>Y.putOF t o.dst v λt'=>Y.opsF l P K G cf n ops t' m' q) (Y.wantF o ops t)) (Y.dstF n o.dst)
  have e1:(λt'=>Y.recF l P K G cf n ops t' m λrs t' m''=>q' (⟨false,undef,t,m⟩::rs) t' m'')=λt'=>Y.opsF l P K G cf n ops t' m q:=funext λt'=>ih _ _ _ λrs t m=>h _ t m
  have e2:(λv m'=>Y.putOF t o.dst v λt'=>Y.recF l P K G cf n ops t' m' λrs t' m''=>q' (⟨true,v,t,m⟩::rs) t' m'')=λv m'=>Y.putOF t o.dst v λt'=>Y.opsF l P K G cf n ops t' m' q:=by
   funext v m';congr 1;funext t';exact ih _ _ _ λrs t m=>h _ t m
  rw[e1,e2]
def Uf(ops:List Oper):Bool:=Qc ops && (KP ops).isEmpty && (Ip ops).isEmpty
theorem Qx{P:Program}{K:TypeId->Bool}{G:Nat}{cf:Y.CF α}{n:Nat}{ops:List Oper}(h:Uf ops=true)(t:AE)(m:Mem)(q:AE->Mem->Option α):Y.drawF P K G cf n ops t m q=Y.opsF ops P K G cf n ops t m q:=by
 simp only[Uf,Bool.and_eq_true,List.isEmpty_iff]at h
 obtain⟨⟨h1,h2⟩,h3⟩:=h
 unfold Y.drawF
 rw[h1,h2,h3]
 exact OI P K G cf n ops q ops t m _ λ_ _ _=>rfl
def calm(s:List Nat):Code->Code
 | .region i ops d=>cond (s.any (Nat.beq i) && Uf ops.toList) (.region i ops false) (.region i ops d)
 | .seq a b=> .seq (calm s a) (calm s b)
 | .cond c a b=> .cond c (calm s a) (calm s b)
 | .block j c=> .block j (calm s c)
 |c=>c
def PY:Code->Bool
 | .region _ _ _=>true
 | .seq a b=>PY a && PY b
 | .cond _ a b=>PY a && PY b
 | .block _ c=>PY c
 | .loop _=>true
 | .skip=>true
 | .exit _=>true
 | .ret=>true
 |_=>false
theorem UO(s:List Nat)(P:Program)(K:TypeId->Bool)(G:Nat)(cf:Y.CF α)(L:Y.LK α)(n k:Nat):∀(c:Code),PY c=true->∀(t:AE) (m:Mem) (q:Y.ExK α),Y.codeF c P K G cf L n k t m q=Y.codeF (calm s c) P K G cf L n k t m q:=by
 intro c
 induction c with
 |skip=>intros;rfl
 |exit=>intros;rfl
 |ret=>intros;rfl
 |region i ops d=>
  intro _ t m q;unfold calm;cases hb:s.any (Nat.beq i) && Uf ops.toList with
  |false=>rfl
  |true=>
   simp only[Bool.and_eq_true]at hb;cases d with
   |false=>rfl
   |true=>exact Qx hb.2 t m _
 |seq a b ia ib=>
  intro h t m q;simp only[PY,Bool.and_eq_true]at h;refine(ia h.1 ..).trans ?_;show _=Y.codeF (calm s a) P K G cf L n k t m λe t m=>Ex.rec (motive:=λ_=>Option α) (Y.codeF (calm s b) P K G cf L n k t m q) (λid=>q (.exit id) t m) (q .ret t m) e;congr 1;funext e t m;cases e with
  |normal=>exact ib h.2 ..
  |exit=>rfl
  |ret=>rfl
 |cond c a b ia ib=>
  intro h t m q;simp only[PY,Bool.and_eq_true]at h;show Y.evF c G t (λv=>Y.asBool v (Y.codeF a P K G cf L n k t m q) (Y.codeF b P K G cf L n k t m q))=Y.evF c G t (λv=>Y.asBool v (Y.codeF (calm s a) P K G cf L n k t m q) (Y.codeF (calm s b) P K G cf L n k t m q));rw[ia h.1,ib h.2]
 |block j c ic=>
  intro h t m q;simp only[PY]at h;exact ic h ..
 |loop c ic=>intros;rfl
 |_=>intro h;cases h
end
end Kit
end Go.DI
namespace Go.Proofs.YtgjflcgmieiafaaDoor
open Go Go.DI Go.DI.Kit Go.Proofs Go.Cmp
noncomputable section
set_option maxHeartbeats 4000000
variable{α:Type}(x:Nat->Value)(cf:Y.CF α)(L:Y.LK α)(k:Nat)(m:Mem)
noncomputable def SI:Code:=D7 [1,2] (calm [2] (AN Tryd.f25))
noncomputable def bJ:List Oper:=CE 2 (AN Tryd.f25)
noncomputable def Vx:List Oper:=CE 1 (AN Tryd.f25)
noncomputable def mH:Code:=D7 [1] (calm [1] (AN Tryd.f27))
noncomputable def mI:List Oper:=CE 1 (AN Tryd.f27)
noncomputable def mJ:Code:=D7 [1] (AN Tryd.f32)
noncomputable def mK:List Oper:=CE 1 (AN Tryd.f32)
theorem jG(mp:Nat)(wc wo ws:Int)(ww wr:Bool)(io id is iof im:Int)(q:Value->Mem->Option α):Y.codeF SI Tryd.prog kp 1 (Y.cfT Tryd.prog cf) L 24 k (AA 24 (CM [.pointer (some ⟨mp,0,none⟩),.agg ⟨[.int .i64 wc,.int .i64 wo,.int .i64 ws,.bool ww,.bool wr]⟩,.agg ⟨[.int .u8 io,.int .u8 id,.int .u8 is,.int .i16 iof,.int .i32 im]⟩])) m (Y.retF Tryd.prog Tryd.f25 q)=
 (L (Y.codeF (Y.loopC SI 0) Tryd.prog kp 1 (Y.cfT Tryd.prog cf) L 24 k) (Y.loopC SI 0) k (AA 24 (up (up Go.DI.x0 [(2,.agg ⟨[.int .u8 io,.int .u8 id,.int .u8 is,.int .i16 iof,.int .i32 im]⟩),(1,.agg ⟨[.int .i64 wc,.int .i64 wo,.int .i64 ws,.bool ww,.bool wr]⟩)]) [(0,.pointer (some ⟨mp,0,none⟩)),(4,.pointer (some ⟨Mem.size m,0,none⟩)),(5,.pointer (some ⟨Nat.succ (Mem.size m),0,none⟩))])) (Mem.push (Mem.push m (.cells true [.int .i64 wc,.int .i64 wo,.int .i64 ws,.bool ww,.bool wr])) (.cells true [.int .u8 io,.int .u8 id,.int .u8 is,.int .i16 iof,.int .i32 im])) (Y.kont Tryd.prog kp 1 (Y.cfT Tryd.prog cf) L 24 k SI 0 (Y.retF Tryd.prog Tryd.f25 q))):=by kernel_rfl
theorem jH(mp b4 b5:Nat)(q:AE->Mem->Option α):Y.opsF (List.take 7 Vx) Tryd.prog kp 1 (Y.cfT Tryd.prog cf) 24 Vx (AA 24 (up x [(0,.pointer (some ⟨mp,0,none⟩)),(4,.pointer (some ⟨b4,0,none⟩)),(5,.pointer (some ⟨b5,0,none⟩))])) m q=
 (Y.cellsOf (Mem.get m b4) (λ_ A=>cond (Nat.ble 5 (Y.lenLF A)) (Y.cellsOf (Mem.get m b5) (λ_ B=>cond (Nat.ble 5 (Y.lenLF B)) (cf 49 [.agg ⟨Y.subL A 0 5⟩,.agg ⟨Y.subL B 0 5⟩] m (λF E=>Y.asTup F (λG=>Y.unc (Array.toList G) (λa l=>Y.asAgg a (λC=>Y.unc l (λH I=>Y.asInt H (λJ D=>cond (Y.kEq .i64 J) (Y.unc I (λN O=>none) (q (AA 24 (up (up x [(8,.tuple ⟨[.agg C,.int .i64 D]⟩),(4,.pointer (some ⟨b4,0,none⟩)),(10,.agg ⟨Y.subL B 0 5⟩),(9,.agg ⟨Y.subL A 0 5⟩),(5,.pointer (some ⟨b5,0,none⟩)),(11,.tuple ⟨[.agg C,.int .i64 D]⟩)]) [(0,.pointer (some ⟨mp,0,none⟩)),(6,.pointer (some ⟨Mem.size E,0,none⟩)),(12,.agg C),(13,.int .i64 D)])) (Mem.push E (.cells true [.int .u8 0,.int .u8 0,.int .u8 0,.int .i16 0,.int .i32 0])))) none) none) none) none) none))) none)) none)):=by kernel_rfl
theorem jK(mp b6:Nat)(q:Value->Mem->Option α):Y.kont Tryd.prog kp 1 (Y.cfT Tryd.prog cf) L 24 k SI 0 (Y.retF Tryd.prog Tryd.f25 q) .normal (AA 24 (up x [(0,.pointer (some ⟨mp,0,none⟩)),(6,.pointer (some ⟨b6,0,none⟩))])) m=
 (L (Y.codeF (Y.loopC SI 1) Tryd.prog kp 1 (Y.cfT Tryd.prog cf) L 24 k) (Y.loopC SI 1) k (AA 24 (up x [(0,.pointer (some ⟨mp,0,none⟩)),(6,.pointer (some ⟨b6,0,none⟩))])) m (Y.kont Tryd.prog kp 1 (Y.cfT Tryd.prog cf) L 24 k SI 1 (Y.retF Tryd.prog Tryd.f25 q))):=by kernel_rfl
theorem jL(mp b6:Nat)(q:AE->Mem->Option α):Y.opsF (List.take 6 bJ) Tryd.prog kp 1 (Y.cfT Tryd.prog cf) 24 bJ (AA 24 (up x [(0,.pointer (some ⟨mp,0,none⟩)),(6,.pointer (some ⟨b6,0,none⟩))])) m q=
 (Y.cellsOf (Mem.get m mp) (λ_ B=>Option.elim (Y.nthL B 0) none (λo9=>Y.asSl o9 (λC D E=>Y.cellsOf (Mem.get m b6) (λ_ A=>cond (Nat.ble 5 (Y.lenLF A)) (q (AA 24 (up (up x [(16,.pointer (some ⟨mp,0,none⟩)),(6,.pointer (some ⟨b6,0,none⟩)),(17,.pointer (some ⟨mp,0,none⟩)),(15,.pointer (some ⟨mp,0,none⟩))]) [(0,.pointer (some ⟨mp,0,none⟩)),(14,.pointer (some ⟨mp,0,none⟩)),(18,.slice C D E),(19,.agg ⟨Y.subL A 0 5⟩)])) m) none)) none))):=by kernel_rfl
theorem cq(mp:Nat)(v18:Value)(io id is iof im:Int)(q:AE->Mem->Option α):Y.opsF (List.take 1 (List.drop 6 bJ)) Tryd.prog kp 1 (Y.cfT Tryd.prog cf) 24 bJ (AA 24 (up x [(0,.pointer (some ⟨mp,0,none⟩)),(14,.pointer (some ⟨mp,0,none⟩)),(18,v18),(19,.agg ⟨[.int .u8 io,.int .u8 id,.int .u8 is,.int .i16 iof,.int .i32 im]⟩)])) m q=
 (q (AA 24 (up (up x [(19,.agg ⟨[.int .u8 io,.int .u8 id,.int .u8 is,.int .i16 iof,.int .i32 im]⟩)]) [(0,.pointer (some ⟨mp,0,none⟩)),(14,.pointer (some ⟨mp,0,none⟩)),(18,v18),(20,.slice (some ⟨Mem.size m,0,none⟩) 1 1)])) (Mem.push m (.cells true [.int .u8 io,.int .u8 id,.int .u8 is,.int .i16 iof,.int .i32 im]))):=by kernel_rfl
theorem jN(v0:Value)(q:Value->Mem->Option α):Y.kont Tryd.prog kp 1 (Y.cfT Tryd.prog cf) L 24 k SI 1 (Y.retF Tryd.prog Tryd.f25 q) .normal (AA 24 (up x [(0,v0)])) m=
 (q (.tuple ⟨[]⟩) m):=by kernel_rfl
theorem cr(mp lp:Nat)(wc wo ws:Int)(ww wr:Bool)(io id is iof im:Int)(q:Value->Mem->Option α):Y.codeF mH Tryd.prog kp 1 (Y.cfT Tryd.prog cf) L 26 k (AA 26 (CM [.pointer (some ⟨mp,0,none⟩),.agg ⟨[.int .i64 wc,.int .i64 wo,.int .i64 ws,.bool ww,.bool wr]⟩,.agg ⟨[.int .u8 io,.int .u8 id,.int .u8 is,.int .i16 iof,.int .i32 im]⟩,.pointer (some ⟨lp,0,none⟩)])) m (Y.retF Tryd.prog Tryd.f27 q)=
 (L (Y.codeF (Y.loopC mH 0) Tryd.prog kp 1 (Y.cfT Tryd.prog cf) L 26 k) (Y.loopC mH 0) k (AA 26 (up (up Go.DI.x0 [(2,.agg ⟨[.int .u8 io,.int .u8 id,.int .u8 is,.int .i16 iof,.int .i32 im]⟩),(1,.agg ⟨[.int .i64 wc,.int .i64 wo,.int .i64 ws,.bool ww,.bool wr]⟩)]) [(0,.pointer (some ⟨mp,0,none⟩)),(3,.pointer (some ⟨lp,0,none⟩)),(5,.pointer (some ⟨Mem.size m,0,none⟩)),(6,.pointer (some ⟨Nat.succ (Mem.size m),0,none⟩))])) (Mem.push (Mem.push m (.cells true [.int .i64 wc,.int .i64 wo,.int .i64 ws,.bool ww,.bool wr])) (.cells true [.int .u8 io,.int .u8 id,.int .u8 is,.int .i16 iof,.int .i32 im])) (Y.kont Tryd.prog kp 1 (Y.cfT Tryd.prog cf) L 26 k mH 0 (Y.retF Tryd.prog Tryd.f27 q))):=by kernel_rfl
theorem cu(mp lp b5 b6:Nat)(q:AE->Mem->Option α):Y.opsF (List.take 11 mI) Tryd.prog kp 1 (Y.cfT Tryd.prog cf) 26 mI (AA 26 (up x [(0,.pointer (some ⟨mp,0,none⟩)),(3,.pointer (some ⟨lp,0,none⟩)),(5,.pointer (some ⟨b5,0,none⟩)),(6,.pointer (some ⟨b6,0,none⟩))])) m q=
 (Y.cellsOf (Mem.get m lp) (λ_ B=>Option.elim (Y.nthL B 1) none (λC=>Y.asSl C (λD E F=>Y.cellsOf (Mem.get m mp) (λ_ G=>Option.elim (Y.nthL G 0) none (λH=>Y.asSl H (λI A J=>q (AA 26 (up (up x [(16,.slice I A J),(10,.pointer (some ⟨lp,0,none⟩)),(14,.pointer (some ⟨mp,0,none⟩)),(17,.int .i64 (Int.ofNat A)),(9,.pointer (some ⟨lp,0,none⟩)),(13,.pointer (some ⟨mp,0,none⟩)),(3,.pointer (some ⟨lp,0,none⟩)),(11,.pointer (some ⟨lp,1,none⟩)),(15,.pointer (some ⟨mp,0,none⟩))]) [(0,.pointer (some ⟨mp,0,none⟩)),(5,.pointer (some ⟨b5,0,none⟩)),(6,.pointer (some ⟨b6,0,none⟩)),(8,.pointer (some ⟨lp,0,none⟩)),(12,.slice D E F),(18,.slice (some ⟨Mem.size m,0,none⟩) 1 1)])) (Mem.push m (.cells true [.int .i64 (Int.ofNat A)]))) none))) none))):=by kernel_rfl
theorem cy(mp b5 b6:Nat)(q:Value->Mem->Option α):Y.kont Tryd.prog kp 1 (Y.cfT Tryd.prog cf) L 26 k mH 0 (Y.retF Tryd.prog Tryd.f27 q) .normal (AA 26 (up x [(0,.pointer (some ⟨mp,0,none⟩)),(5,.pointer (some ⟨b5,0,none⟩)),(6,.pointer (some ⟨b6,0,none⟩))])) m=
 (Y.cellsOf (Mem.get m b5) (λ_ A=>cond (Nat.ble 5 (Y.lenLF A)) (Y.cellsOf (Mem.get m b6) (λ_ B=>cond (Nat.ble 5 (Y.lenLF B)) (cf 25 [.pointer (some ⟨mp,0,none⟩),.agg ⟨Y.subL A 0 5⟩,.agg ⟨Y.subL B 0 5⟩] m (λD C=>q (.tuple ⟨[]⟩) C)) none)) none)):=by kernel_rfl
theorem jR(mp:Nat)(d n:Int)(q:Value->Mem->Option α):Y.codeF mJ Tryd.prog kp 1 (Y.cfT Tryd.prog cf) L 28 k (AA 28 (CM [.pointer (some ⟨mp,0,none⟩),.int .u8 d,.int .u64 n])) m (Y.retF Tryd.prog Tryd.f32 q)=
 (cf 25 [.pointer (some ⟨mp,0,none⟩),.agg ⟨[.int .i64 10,.int .i64 0,.int .i64 0,.bool false,.bool false]⟩,.agg ⟨[.int .u8 0,.int .u8 d,.int .u8 0,.int .i16 0,.int .i32 (IntKind.wrap .i32 (IntKind.wrap .u32 n))]⟩] m (λA B=>L (Y.codeF (Y.loopC mJ 0) Tryd.prog kp 1 (Y.cfT Tryd.prog cf) L 28 k) (Y.loopC mJ 0) k (AA 28 (up (up Go.DI.x0 [(8,.int .u8 d),(12,.agg ⟨[.int .u8 0,.int .u8 d,.int .u8 0,.int .i16 0,.int .i32 (IntKind.wrap .i32 (IntKind.wrap .u32 n))]⟩),(10,.int .u32 (IntKind.wrap .u32 n)),(6,.pointer (some ⟨mp,0,none⟩)),(1,.int .u8 d),(9,.int .u64 n),(13,A),(11,.int .i32 (IntKind.wrap .i32 (IntKind.wrap .u32 n))),(7,.agg ⟨[.int .i64 10,.int .i64 0,.int .i64 0,.bool false,.bool false]⟩)]) [(0,.pointer (some ⟨mp,0,none⟩)),(2,.int .u64 n)])) B (Y.kont Tryd.prog kp 1 (Y.cfT Tryd.prog cf) L 28 k mJ 0 (Y.retF Tryd.prog Tryd.f32 q)))):=by kernel_rfl
theorem jS(mp:Nat)(n:Int)(q:AE->Mem->Option α):Y.opsF (List.take 11 mK) Tryd.prog kp 1 (Y.cfT Tryd.prog cf) 28 mK (AA 28 (up x [(0,.pointer (some ⟨mp,0,none⟩)),(2,.int .u64 n)])) m q=
 (Y.cellsOf (Mem.get m mp) (λ_ A=>Option.elim (Y.nthL A 0) none (λo9=>Y.asSl o9 (λB C D=>q (AA 28 (up (up x [(16,.pointer (some ⟨mp,0,none⟩)),(20,.int .u64 (Int.fdiv n 4294967296)),(2,.int .u64 n),(22,.int .i32 (IntKind.wrap .i32 (IntKind.wrap .u32 (Int.fdiv n 4294967296)))),(17,.pointer (some ⟨mp,0,none⟩)),(21,.int .u32 (IntKind.wrap .u32 (Int.fdiv n 4294967296))),(19,.int .u64 n),(23,.agg ⟨[.int .u8 0,.int .u8 0,.int .u8 0,.int .i16 0,.int .i32 (IntKind.wrap .i32 (IntKind.wrap .u32 (Int.fdiv n 4294967296)))]⟩),(15,.pointer (some ⟨mp,0,none⟩))]) [(0,.pointer (some ⟨mp,0,none⟩)),(14,.pointer (some ⟨mp,0,none⟩)),(18,.slice B C D),(24,.slice (some ⟨Mem.size m,0,none⟩) 1 1)])) (Mem.push m (.cells true [.int .u8 0,.int .u8 0,.int .u8 0,.int .i16 0,.int .i32 (IntKind.wrap .i32 (IntKind.wrap .u32 (Int.fdiv n 4294967296)))]))) none))):=by kernel_rfl
theorem jU(v0:Value)(q:Value->Mem->Option α):Y.kont Tryd.prog kp 1 (Y.cfT Tryd.prog cf) L 28 k mJ 0 (Y.retF Tryd.prog Tryd.f32 q) .normal (AA 28 (up x [(0,v0)])) m=
 (q (.tuple ⟨[]⟩) m):=by kernel_rfl
end
end Go.Proofs.YtgjflcgmieiafaaDoor
namespace Go.Proofs.YtgjflcgmieiafaaDoor
open Go Go.DI Go.DI.Kit Go.Proofs Go.Cmp
noncomputable section
set_option maxHeartbeats 4000000
variable{α:Type}(x:Nat->Value)(cf:Y.CF α)(L:Y.LK α)(k:Nat)(m:Mem)
theorem jM(mp:Nat)(w0 u v:Value)(q:AE->Mem->Option α):Y.opsF (List.drop 7 bJ) Tryd.prog kp 1 (Y.cfT Tryd.prog cf) 24 bJ (AA 24 (up x [(0,w0),(14,.pointer (some ⟨mp,0,none⟩)),(18,u),(20,v)])) m q=
 Y.appendF Tryd.prog m 30 30 u v λa m'=>Y.storeF Tryd.prog m' 30 a (.pointer (some ⟨mp,0,none⟩)) λm''=>q (AA 24 (up (up x [(14, .pointer (some ⟨mp,0,none⟩)),(18,u),(20,v),(21,a),(22, .pointer (some ⟨mp,0,none⟩)),(23, .pointer (some ⟨mp,0,none⟩))]) [(0,w0)])) m'':=by kernel_rfl
theorem cw(mp:Nat)(w0 w5 w6 u v:Value)(q:AE->Mem->Option α):Y.opsF (List.drop 11 mI) Tryd.prog kp 1 (Y.cfT Tryd.prog cf) 26 mI (AA 26 (up x [(0,w0),(5,w5),(6,w6),(8,.pointer (some ⟨mp,0,none⟩)),(12,u),(18,v)])) m q=
 Y.appendF Tryd.prog m 58 58 u v λa m'=>Y.storeF Tryd.prog m' 58 a (.pointer (some ⟨mp,1,none⟩)) λm''=>q (AA 26 (up (up x [(8, .pointer (some ⟨mp,0,none⟩)),(12,u),(18,v),(19,a),(20, .pointer (some ⟨mp,0,none⟩)),(21, .pointer (some ⟨mp,1,none⟩))]) [(0,w0),(5,w5),(6,w6)])) m'':=by kernel_rfl
theorem jT(mp:Nat)(w0 u v:Value)(q:AE->Mem->Option α):Y.opsF (List.drop 11 mK) Tryd.prog kp 1 (Y.cfT Tryd.prog cf) 28 mK (AA 28 (up x [(0,w0),(14,.pointer (some ⟨mp,0,none⟩)),(18,u),(24,v)])) m q=
 Y.appendF Tryd.prog m 30 30 u v λa m'=>Y.storeF Tryd.prog m' 30 a (.pointer (some ⟨mp,0,none⟩)) λm''=>q (AA 28 (up (up x [(14, .pointer (some ⟨mp,0,none⟩)),(18,u),(24,v),(25,a),(26, .pointer (some ⟨mp,0,none⟩)),(27, .pointer (some ⟨mp,0,none⟩))]) [(0,w0)])) m'':=by kernel_rfl
theorem jJ(b:Nat)(w0 u v:Value)(q:AE->Mem->Option α):Y.opsF (List.drop 7 Vx) Tryd.prog kp 1 (Y.cfT Tryd.prog cf) 24 Vx (AA 24 (up x [(0,w0),(6,.pointer (some ⟨b,0,none⟩)),(12,u),(13,v)])) m q=
 Y.storeF Tryd.prog m 88 u (.pointer (some ⟨b,0,none⟩)) λm'=>q (AA 24 (up (up x [(12,u),(13,v),(7,v)]) [(0,w0),(6, .pointer (some ⟨b,0,none⟩))])) m':=by kernel_rfl
end
end Go.Proofs.YtgjflcgmieiafaaDoor
namespace Go.DI
namespace Kit
noncomputable section
structure Bq where
 pre:List Value
 post:List Value
 z:Nat
 n:Nat
 c:List Value
def pI(b:Option Nat)(z n:Nat):Value:=match b with|none=> .slice none 0 0|some c=> .slice (some ⟨c,0,some z⟩) n n
def nH(M:Mem)(b:Option Nat)(n:Nat)(l:List Value):Prop:=match b with|none=>n=0/\l= []|some c=>M.get c= .cells true l
structure At(M:Mem)(p:Nat)(b:Option Nat)(o:Bq):Prop where
 cells:M.get p= .cells true (o.pre++pI b o.z o.n::o.post)
 buf:nH M b o.n o.c
 len:o.c.length=o.n*o.z
 ones:o.c.all one=true
inductive Yd(M:Mem):List (Nat×Bq)->List Nat->Prop
 |nil:Yd M [] []
 |cons {p:Nat} {b:Option Nat} {o:Bq} {hs:List (Nat×Bq)} {F:List Nat}:At M p b o->Yd M hs F->Yd M ((p,o)::hs) (p::(b.toList++F))
abbrev CU:=Nat->Option BI
def Hp(M:Mem)(K:CU)(hs:List (Nat×Bq)):Prop:=M.top/\(∀j x,K j=some x->j<M.size/\M.get j=x)/\∃F,Yd M hs F/\F.Nodup/\∀x∈F,K x=none/\x<M.size
theorem Hp.top{M:Mem}{K:CU}{hs:List (Nat×Bq)}(h:Hp M K hs):M.top:=h.1
theorem Hp.get{M:Mem}{K:CU}{hs:List (Nat×Bq)}(h:Hp M K hs){j:Nat}{x:BI}(hj:K j=some x):M.get j=x:=(h.2.1 j x hj).2
theorem Hp.lt{M:Mem}{K:CU}{hs:List (Nat×Bq)}(h:Hp M K hs){j:Nat}{x:BI}(hj:K j=some x):j<M.size:=(h.2.1 j x hj).1
theorem At.mono{M M':Mem}{p:Nat}{b:Option Nat}{o:Bq}(h:At M p b o)(hm:∀x∈p::b.toList,M'.get x=M.get x):At M' p b o:=by
 refine⟨by rw[hm p (List.mem_cons_self ..)];exact h.cells,?_,h.len,h.ones⟩
 have:=h.buf
 cases b with
 |none=>exact this
 |some c=>show M'.get c=_;rw[hm c (by simp)];exact this
theorem Yd.mono{M M':Mem}{hs:List (Nat×Bq)}{F:List Nat}(h:Yd M hs F)(hm:∀x∈F,M'.get x=M.get x):Yd M' hs F:=by
 induction h with
 |nil=>exact .nil
 |cons hA _ ih=>exact .cons (hA.mono λx hx=>hm x (by simp at hx ⊢;rcases hx with h|h<;>simp[h])) (ih λx hx=>hm x (by simp[hx]))
theorem Yd.perm{M:Mem}{hs hs':List (Nat×Bq)}(hp:hs.Perm hs'):∀{F:List Nat},Yd M hs F->∃F',Yd M hs' F'/\F.Perm F':=by
 induction hp with
 |nil=>intro F h;exact⟨F,h, .refl _⟩
 |cons x _ ih=>
  intro F h;cases h with
  |cons hA hL=>
   obtain⟨F',h1,h2⟩:=ih hL;exact⟨_, .cons hA h1, .cons _ (h2.append_left _)⟩
 |swap x y l=>
  intro F h;cases h with
  |cons hA hL=>
   cases hL with
   |cons hA' hL'=>
    refine⟨_, .cons hA' (.cons hA hL'),?_⟩;rename_i p b o p' b' o' F;show((p::b.toList)++((p'::b'.toList)++F)).Perm ((p'::b'.toList)++((p::b.toList)++F));rw[←List.append_assoc,←List.append_assoc];exact List.perm_append_comm.append_right _
 |trans _ _ ih1 ih2=>
  intro F h;obtain⟨F1,h1,p1⟩:=ih1 h;obtain⟨F2,h2,p2⟩:=ih2 h1;exact⟨F2,h2,p1.trans p2⟩
theorem Hp.perm{M:Mem}{K:CU}{hs hs':List (Nat×Bq)}(h:Hp M K hs)(hp:hs.Perm hs'):Hp M K hs':=by
 obtain⟨ht,hK,F,h1,h2,h3⟩:=h
 obtain⟨F',h4,h5⟩:=h1.perm hp
 exact⟨ht,hK,F',h4,h5.nodup_iff.1 h2,λx hx=>h3 x (h5.mem_iff.2 hx)⟩
theorem Hp.tail{M:Mem}{K:CU}{x:Nat×Bq}{hs:List (Nat×Bq)}(h:Hp M K (x::hs)):Hp M K hs:=by
 obtain⟨ht,hK,F,h1,h2,h3⟩:=h
 cases h1 with
 |cons hA hL=>
  have h2:=(List.nodup_cons.1 h2).2;exact⟨ht,hK,_,hL,(List.nodup_append.1 h2).2.1,λx hx=>h3 x (by simp[hx])⟩
theorem Hp.ext{M M':Mem}{K:CU}{hs:List (Nat×Bq)}(h:Hp M K hs)(hx:Ext M M'):Hp M' K hs:=by
 obtain⟨ht,hK,F,h1,h2,h3⟩:=h
 exact⟨hx.top ht,λj x hj=>⟨Nat.lt_of_lt_of_le (hK j x hj).1 hx.size,(hx.get j (hK j x hj).1).trans (hK j x hj).2⟩,F,h1.mono λx hx'=>hx.get x (h3 x hx').2,h2,λx hx'=>⟨(h3 x hx').1,Nat.lt_of_lt_of_le (h3 x hx').2 hx.size⟩⟩
theorem Hp.weak{M:Mem}{K K':CU}{hs:List (Nat×Bq)}(h:Hp M K' hs)(hw:∀j x,K j=some x->K' j=some x):Hp M K hs:=by
 obtain⟨ht,hK,F,h1,h2,h3⟩:=h
 refine⟨ht,λj x hj=>hK j x (hw j x hj),F,h1,h2,λx hx=>⟨?_,(h3 x hx).2⟩⟩
 cases hk:K x with
 |none=>rfl
 |some y=>have:=hw x y hk;rw[(h3 x hx).1]at this;cases this
def Cg(M:Mem):CU:=λj=>if j<M.size then some (M.get j)else none
theorem Hp.all{M:Mem}(h:M.top):Hp M (Cg M) []:=by
 refine⟨h,λj x hj=>?_,[], .nil,List.nodup_nil,λx hx=>by simp at hx⟩
 unfold Cg at hj
 split at hj
 ·rename_i hl;exact⟨hl,Option.some.inj hj⟩
 ·cases hj
def FB(K:CU)(b:Nat)(x:BI):CU:=λj=>if j=b then some x else K j
theorem BQ(K:CU)(b:Nat)(x:BI):FB K b x b=some x:=if_pos rfl
theorem Cd{K:CU}{b j:Nat}{x:BI}(h:j≠b):FB K b x j=K j:=if_neg h
theorem Hp.box{M M':Mem}{K:CU}{hs:List (Nat×Bq)}(h:Hp M K hs){b:Nat}{x:BI}(hx:Ext M M')(h1:M.size<=b)(h2:b<M'.size)(hb:M'.get b=x):Hp M' (FB K b x) hs/\∀j y,K j=some y->FB K b x j=some y:=by
 obtain⟨ht,hK,F,hL,hn,h3⟩:=h
 refine⟨⟨hx.top ht,λj y hj=>?_,F,hL.mono λx hx'=>hx.get x (h3 x hx').2,hn,λy hy=>?_⟩,λj y hj=>?_⟩
 ·by_cases hjb:j=b
  ·subst hjb;rw[BQ]at hj;cases hj;exact⟨h2,hb⟩
  ·rw[Cd hjb]at hj;exact⟨Nat.lt_of_lt_of_le (hK j y hj).1 hx.size,(hx.get j (hK j y hj).1).trans (hK j y hj).2⟩
 ·have:=h3 y hy;rw[Cd (by omega)];exact⟨this.1,Nat.lt_of_lt_of_le this.2 hx.size⟩
 ·have:=(hK j y hj).1;rw[Cd (by omega)];exact hj
theorem Hp.boxP{M:Mem}{K:CU}{hs:List (Nat×Bq)}(h:Hp M K hs)(x:BI):Hp (M.push x) (FB K M.size x) hs/\∀j y,K j=some y->FB K M.size x j=some y:=
 h.box (Ext.push _ _) (Nat.le_refl _) (by show M.size<M.size+1;omega) (Mem.get_push_same _ _)
theorem Hp.push{M:Mem}{K:CU}{hs:List (Nat×Bq)}(h:Hp M K hs)(pre post:List Value)(z:Nat):Hp (M.push (.cells true (pre++ .slice none 0 0::post))) K ((M.size,⟨pre,post,z,0,[]⟩)::hs):=by
 have h':=h.ext (Ext.push M (.cells true (pre++ .slice none 0 0::post)))
 obtain⟨ht,hK,F,h1,h2,h3⟩:=h
 obtain⟨ht',hK',_⟩:=h'
 refine⟨ht',hK',M.size::((none:Option Nat).toList++F), .cons ⟨Mem.get_push_same _ _,⟨rfl,rfl⟩,by simp,rfl⟩ (h1.mono λx hx=>Mem.get_push_ne _ (by have:=(h3 x hx).2;omega) _),?_,λx hx=>?_⟩
 ·simp only[Option.toList_none,List.nil_append];exact List.nodup_cons.2 ⟨λhm=>by have:=(h3 _ hm).2;omega,h2⟩
 ·simp only[Option.toList_none,List.nil_append,List.mem_cons]at hx;rcases hx with rfl|hx
  ·refine⟨?_,by simp⟩;cases hk:K M.size with
   |none=>rfl
   |some y=>have:=(hK _ _ hk).1;omega
  ·have:=h3 x hx;exact⟨this.1,by simp;omega⟩
theorem Se(pre post:List Value)(x y:Value):splice (pre++x::post) pre.length [y]=pre++y::post:=by
 unfold splice
 rw[List.take_left,show pre.length+ [y].length=pre.length+1 from rfl]
 simp
theorem Gg{M:Mem}{K:CU}{p:Nat}{x:BI}(hK:∀j x,K j=some x->j<M.size/\M.get j=x)(hp:K p=none):∀j y,K j=some y->j< (M.set p x).size/\(M.set p x).get j=y:=by
 intro j y hj
 have hne:j≠p:=by rintro rfl;rw[hp]at hj;cases hj
 exact⟨(hK j y hj).1,(Mem.get_set_ne _ hne _).trans (hK j y hj).2⟩
theorem OC{M:Mem}{K:CU}{x:BI}(hK:∀j x,K j=some x->j<M.size/\M.get j=x):∀j y,K j=some y->j< (M.push x).size/\(M.push x).get j=y:=by
 intro j y hj
 have:=hK j y hj
 exact⟨by show j<M.size+1;omega,(Mem.get_push_ne _ (by omega) _).trans this.2⟩
theorem Qg{M M':Mem}{K:CU}(hK:∀j x,K j=some x->j<M.size/\M.get j=x)(hx:Ext M M'):∀j y,K j=some y->j<M'.size/\M'.get j=y:=by
 intro j y hj
 have:=hK j y hj
 exact⟨Nat.lt_of_lt_of_le this.1 hx.size,(hx.get j this.1).trans this.2⟩
theorem F3{M:Mem}{p:Nat}{x:BI}(ht:M.top)(hp:p<M.size):(M.set p x).top:=λj hj=>by
 have hj:M.size<=j:=hj
 rw[Mem.get_set_ne _ (by omega)];exact ht j hj
theorem J3{M:Mem}{x:BI}(ht:M.top):(M.push x).top:=(Ext.push M x).top ht
theorem Hp.set{M:Mem}{K:CU}{p:Nat}{o:Bq}{hs:List (Nat×Bq)}(h:Hp M K ((p,o)::hs)):p<M.size/\K p=none/\∃u,(∃a,u= .slice a o.n o.n)/\M.get p= .cells true (o.pre++u::o.post)/\
  ∀pre post,Hp (M.set p (.cells true (pre++u::post))) K ((p,{o with pre:=pre,post:=post})::hs):=by
 obtain⟨ht,hK,F,h1,h2,h3⟩:=h
 cases h1 with
 |cons hA hL=>
  rename_i b F;have hp:=h3 p (List.mem_cons_self ..);have hn:=List.nodup_cons.1 h2;refine⟨hp.2,hp.1,_,?_,hA.cells,λpre post=>⟨F3 ht hp.2,Gg hK hp.1,_, .cons (b:=b) ⟨Mem.get_set_same _ _ _,?_,hA.len,hA.ones⟩ (hL.mono λx hx=>Mem.get_set_ne _ (by rintro rfl;exact hn.1 (by simp[hx])) _),h2,h3⟩⟩
  ·have:=hA.buf;cases b with
   |none=>exact⟨none,by show Value.slice none 0 0=_;rw[this.1]⟩
   |some c=>exact⟨_,rfl⟩
  ·have:=hA.buf;cases b with
   |none=>exact this
   |some c=>
    show(M.set p _).get c=_;rw[Mem.get_set_ne _ (by rintro rfl;exact hn.1 (by simp))];exact this
theorem Hp.poke{M:Mem}{K:CU}{p:Nat}{o:Bq}{hs:List (Nat×Bq)}(h:Hp M K ((p,o)::hs))(hn0:0<o.n):∃c,M.get p= .cells true (o.pre++ .slice (some ⟨c,0,some o.z⟩) o.n o.n::o.post)/\M.get c= .cells true o.c/\
  ∀c',c'.length=o.c.length->c'.all one=true->Hp (M.set c (.cells true c')) K ((p,{o with c:=c'})::hs):=by
 obtain⟨ht,hK,F,h1,h2,h3⟩:=h
 cases h1 with
 |cons hA hL=>
  rename_i b F;have hn:=List.nodup_cons.1 h2;cases b with
  |none=>have h0:o.n=0:=hA.buf.1;omega
  |some c=>
   have hbuf:M.get c= .cells true o.c:=hA.buf;have hc:=h3 c (by simp);have hcp:p≠c:=by rintro rfl;exact hn.1 (by simp)
   refine⟨c,hA.cells,hbuf,λc' hl h1=>⟨F3 ht hc.2,Gg hK hc.1,_, .cons (b:=some c) ⟨(Mem.get_set_ne _ hcp _).trans hA.cells,Mem.get_set_same _ _ _,hl.trans hA.len,h1⟩ (hL.mono λx hx=>Mem.get_set_ne _ (by rintro rfl;exact(List.nodup_cons.1 hn.2).1 hx) _),h2,h3⟩⟩
theorem Hp.poke2{M:Mem}{K:CU}{p p2:Nat}{o o2:Bq}{hs:List (Nat×Bq)}(h:Hp M K ((p,o)::(p2,o2)::hs))(hn0:0<o.n)(hn2:0<o2.n):∃c c2,M.get p= .cells true (o.pre++ .slice (some ⟨c,0,some o.z⟩) o.n o.n::o.post)/\M.get c= .cells true o.c/\
  M.get p2= .cells true (o2.pre++ .slice (some ⟨c2,0,some o2.z⟩) o2.n o2.n::o2.post)/\M.get c2= .cells true o2.c/\p≠c/\p2≠c/\c2≠c/\
  ∀c',c'.length=o.c.length->c'.all one=true->Hp (M.set c (.cells true c')) K ((p,{o with c:=c'})::(p2,o2)::hs):=by
 obtain⟨ht,hK,F,h1,h2,h3⟩:=h
 cases h1 with
 |cons hA hL=>
  rename_i b F;have hn:=List.nodup_cons.1 h2;cases b with
  |none=>have h0:o.n=0:=hA.buf.1;omega
  |some c=>
   have hbuf:M.get c= .cells true o.c:=hA.buf;have hc:=h3 c (by simp);have hcp:p≠c:=by rintro rfl;exact hn.1 (by simp)
   have hcF:=(List.nodup_cons.1 hn.2).1;cases hL with
   |cons hA2 hL2=>
    rename_i b2 F2;cases b2 with
    |none=>have h0:o2.n=0:=hA2.buf.1;omega
    |some c2=>
     have hp2:p2≠c:=by rintro rfl;exact hcF (by simp)
     have hc2:c2≠c:=by rintro rfl;exact hcF (by simp)
     refine⟨c,c2,hA.cells,hbuf,hA2.cells,hA2.buf,hcp,hp2,hc2,λc' hl h1=>⟨F3 ht hc.2,Gg hK hc.1,_, .cons (b:=some c) ⟨(Mem.get_set_ne _ hcp _).trans hA.cells,Mem.get_set_same _ _ _,hl.trans hA.len,h1⟩ ((Yd.cons hA2 hL2).mono λx hx=>Mem.get_set_ne _ (by rintro rfl;exact hcF hx) _),h2,h3⟩⟩
theorem Hp.freeze{M:Mem}{K:CU}{p:Nat}{o:Bq}{hs:List (Nat×Bq)}(h:Hp M K ((p,o)::hs)):∃(K2:CU) (a:Option Addr),(∀j x,K j=some x->K2 j=some x)/\K2 p=some (.cells true (o.pre++ .slice a o.n o.n::o.post))/\
  (0<o.n->∃c,a=some ⟨c,0,some o.z⟩/\K2 c=some (.cells true o.c)/\K c=none)/\K p=none/\Hp M K2 hs:=by
 obtain⟨ht,hK,F,h1,h2,h3⟩:=h
 cases h1 with
 |cons hA hL=>
  rename_i b F;have hp:=h3 p (List.mem_cons_self ..);have hn:=List.nodup_cons.1 h2
  have w1:∀x,∀j y,K j=some y->FB K p x j=some y:=λx j y hj=>by
   rw[Cd (by rintro rfl;rw[hp.1]at hj;cases hj)];exact hj
  cases b with
  |none=>
   have h0:o.n=0:=hA.buf.1;refine⟨FB K p (.cells true (o.pre++ .slice none o.n o.n::o.post)),none,w1 _,BQ ..,λhn0=>by omega,hp.1,ht,λj x hj=>?_,F,hL,hn.2,λx hx=>?_⟩
   ·by_cases e:j=p
    ·subst e;rw[BQ]at hj;cases hj;refine⟨hp.2,?_⟩;have:=hA.cells;rw[h0]at this ⊢;exact this
    ·rw[Cd e]at hj;exact hK j x hj
   ·rw[Cd (by rintro rfl;exact hn.1 (by simpa using hx))];exact h3 x (by simp[hx])
  |some c=>
   have hc:=h3 c (by simp);have hcp:c≠p:=by rintro rfl;exact hn.1 (by simp)
   have hcF:=List.nodup_cons.1 hn.2;refine⟨FB (FB K p (.cells true (o.pre++ .slice (some ⟨c,0,some o.z⟩) o.n o.n::o.post))) c (.cells true o.c),some ⟨c,0,some o.z⟩,λj y hj=>?_,?_,λ_=>⟨c,rfl,BQ ..,hc.1⟩,hp.1,ht,λj x hj=>?_,F,hL,hcF.2,λx hx=>?_⟩
   ·rw[Cd (by rintro rfl;rw[hc.1]at hj;cases hj)];exact w1 _ j y hj
   ·rw[Cd (Ne.symm hcp),BQ]
   ·by_cases e:j=c
    ·subst e;rw[BQ]at hj;cases hj;exact⟨hc.2,hA.buf⟩
    ·rw[Cd e]at hj;by_cases e2:j=p
     ·subst e2;rw[BQ]at hj;cases hj;exact⟨hp.2,hA.cells⟩
     ·rw[Cd e2]at hj;exact hK j x hj
   ·rw[Cd (by rintro rfl;exact hcF.1 hx),Cd (by rintro rfl;exact hn.1 (by simp[hx]))];exact h3 x (by simp[hx])
theorem Hp.no{M:Mem}{K:CU}{hs:List (Nat×Bq)}(h:Hp M K hs){j:Nat}(hj:M.size<=j):K j=none:=by
 cases hk:K j with
 |none=>rfl
 |some y=>have:=h.lt hk;omega
section
variable{P:Program}{t e:TypeId}{by_:Nat}
theorem Hp.append{M:Mem}{K:CU}{p:Nat}{o:Bq}{hs:List (Nat×Bq)}(h:Hp M K ((p,o)::hs))(hu:P.underlying t=some (.slice e))(hst:Bh P t=some 1)(hs_:Bh P e=some o.z)(hz:o.z≠0)(hb:bytesOf P e=some by_)(hb0:0<by_)(h0:(D5 P e 1).isSome=true)
  (hbig:(o.n+1)*by_<=140737488355328/\o.n+1<=4611686018427387904):∃a,M.get p= .cells true (o.pre++ .slice a o.n o.n::o.post)/\
  ∀(M1:Mem) (nb:Nat) (own:Bool) (new:List Value),Ext M M1->M1.get nb= .cells own new->new.length=o.z->new.all one=true->∃a' M2 M3,Bp P M1 t t (.slice a o.n o.n) (.slice (some ⟨nb,0,none⟩) 1 1)=some (.slice a' (o.n+1) (o.n+1),M2)/\
   Bx P M2 t (.slice a' (o.n+1) (o.n+1)) (.pointer (some ⟨p,o.pre.length,none⟩))=some M3/\Hp M3 K ((p,{o with n:=o.n+1,c:=o.c++new})::hs)/\M1.size<=M3.size/\∀j,M.size<=j->j<M1.size->M3.get j=M1.get j:=by
 obtain⟨ht,hK,F,h1,h2,h3⟩:=h
 cases h1 with
 |cons hA hL=>
  rename_i b F;have hp:=h3 p (List.mem_cons_self ..);have hn:=List.nodup_cons.1 h2
  have hst2:∀(M2:Mem) (u:Value) (a':Option Addr),M2.get p= .cells true (o.pre++u::o.post)->Bx P M2 t (.slice a' (o.n+1) (o.n+1)) (.pointer (some ⟨p,o.pre.length,none⟩))=some (M2.set p (.cells true (o.pre++ .slice a' (o.n+1) (o.n+1)::o.post))):=λM2 u a' hg=>by
   rw[Cn hst (n:=1) rfl hg (by simp) rfl];show some (M2.set p (.cells true (splice (o.pre++u::o.post) o.pre.length [.slice a' (o.n+1) (o.n+1)])))=_;rw[Se]
  have hlen:∀x,lenOf (.slice (some ⟨x,0,none⟩) 1 1)=some 1:=λ_=>rfl
  have hnone:∀M1:Mem,Ext M M1->K M1.size=none:=λM1 hx=>by
   cases hk:K M1.size with
   |none=>rfl
   |some y=>have:=(hK _ _ hk).1;have:=hx.size;omega
  cases b with
  |none=>
   obtain⟨b1,b2⟩:o.n=0/\o.c= []:=hA.buf;refine⟨none,by have:=hA.cells;rw[b1]at this ⊢;exact this,λM1 nb own new hx hg hl h1=>?_⟩;have hf:CG M1 o.z 1 (.slice (some ⟨nb,0,none⟩) 1 1)=some new:=E6 (rest:= []) (by rw[List.append_nil];exact hg) (by omega);have hap:=append_nil (m:=M1) (x:= .slice (some ⟨nb,0,none⟩) 1 1) hu hs_ hz hb hb0 h0 (hlen nb) (by omega) (by rw[b1]at hbig;simpa using hbig) hf (by omega) h1
   have hgp:(M1.push (.cells true new)).get p= .cells true (o.pre++pI none o.z o.n::o.post):=by
    rw[Mem.get_push_ne _ (by have:=hx.size;omega),hx.get p hp.2];exact hA.cells
   refine⟨_,_,_,by rw[b1];exact hap,hst2 _ _ _ hgp,⟨?_,?_,p::((some M1.size).toList++F), .cons ⟨?_,?_,?_,?_⟩ (hL.mono λx hx'=>?_),?_,λx hx'=>?_⟩,?_,λj h1 h2=>?_⟩
   ·exact F3 (J3 (hx.top ht)) (by have:=hx.size;show p<M1.size+1;omega)
   ·exact Gg (OC (Qg hK hx)) hp.1
   ·exact Mem.get_set_same _ _ _
   ·show(Mem.set _ p _).get M1.size= .cells true (o.c++new);rw[Mem.get_set_ne _ (by have:=hx.size;omega),Mem.get_push_same,b2];rfl
   ·show(o.c++new).length=(o.n+1)*o.z;rw[List.length_append,hl,hA.len,Nat.add_mul,Nat.one_mul]
   ·show(o.c++new).all one=true;rw[List.all_append,hA.ones,h1];rfl
   ·have hxs:=(h3 x (by simp[hx'])).2;have:=hx.size;rw[Mem.get_set_ne _ (by rintro rfl;exact hn.1 (by simp[hx'])),Mem.get_push_ne _ (by omega),hx.get x hxs]
   ·have:=hx.size;refine List.nodup_cons.2 ⟨λhm=>?_,?_⟩
    ·simp only[Option.toList_some,List.cons_append,List.nil_append,List.mem_cons]at hm;rcases hm with rfl|hm
     ·omega
     ·exact hn.1 (by simp[hm])
    ·simp only[Option.toList_some,List.cons_append,List.nil_append];refine List.nodup_cons.2 ⟨λhm=>?_,(List.nodup_append.1 hn.2).2.1⟩;have:=(h3 M1.size (by simp[hm])).2;omega
   ·have:=hx.size;show K x=none/\x<M1.size+1;simp only[Option.toList_some,List.cons_append,List.nil_append,List.mem_cons]at hx';rcases hx' with rfl|rfl|hx'
    ·exact⟨hp.1,by omega⟩
    ·exact⟨hnone M1 hx,by omega⟩
    ·have:=h3 x (by simp[hx']);exact⟨this.1,by omega⟩
   ·show M1.size<=M1.size+1;omega
   ·rw[Mem.get_set_ne _ (by omega),Mem.get_push_ne _ (by omega)]
  |some c=>
   have hbuf:M.get c= .cells true o.c:=hA.buf;refine⟨_,hA.cells,λM1 nb own new hx hg hl h1=>?_⟩;have hc:=h3 c (by simp);have hcp:c≠p:=by rintro rfl;exact hn.1 (by simp)
   have hf:CG M1 o.z 1 (.slice (some ⟨nb,0,none⟩) 1 1)=some new:=E6 (rest:= []) (by rw[List.append_nil];exact hg) (by omega);have hap:=Iq (m:=M1) (bk:=c) (k:=o.n) (x:= .slice (some ⟨nb,0,none⟩) 1 1) hu hs_ hz hb hb0 h0 ((hx.get c hc.2).trans hbuf) hA.len hA.ones (hlen nb) (by omega) hbig hf (by omega) h1
   have hgp:((M1.push (.cells true (o.c++new))).set c .none).get p= .cells true (o.pre++pI (some c) o.z o.n::o.post):=by
    rw[Mem.get_set_ne _ (Ne.symm hcp),Mem.get_push_ne _ (by have:=hx.size;omega),hx.get p hp.2];exact hA.cells
   refine⟨_,_,_,hap,hst2 _ _ _ hgp,⟨?_,?_,p::((some M1.size).toList++F), .cons ⟨?_,?_,?_,?_⟩ (hL.mono λx hx'=>?_),?_,λx hx'=>?_⟩,?_,λj h1 h2=>?_⟩
   ·exact F3 (F3 (J3 (hx.top ht)) (by have:=hx.size;show c<M1.size+1;omega)) (by have:=hx.size;show p<M1.size+1;omega)
   ·exact Gg (Gg (OC (Qg hK hx)) hc.1) hp.1
   ·exact Mem.get_set_same _ _ _
   ·show(Mem.set _ p _).get M1.size= .cells true (o.c++new);rw[Mem.get_set_ne _ (by have:=hx.size;omega),Mem.get_set_ne _ (by have:=hx.size;omega),Mem.get_push_same]
   ·show(o.c++new).length=(o.n+1)*o.z;rw[List.length_append,hl,hA.len,Nat.add_mul,Nat.one_mul]
   ·show(o.c++new).all one=true;rw[List.all_append,hA.ones,h1];rfl
   ·have hxs:=(h3 x (by simp[hx'])).2;have:=hx.size;rw[Mem.get_set_ne _ (by rintro rfl;exact hn.1 (by simp[hx'])),Mem.get_set_ne _ (by rintro rfl;exact(List.nodup_cons.1 hn.2).1 hx'),Mem.get_push_ne _ (by omega),hx.get x hxs]
   ·have:=hx.size;refine List.nodup_cons.2 ⟨λhm=>?_,?_⟩
    ·simp only[Option.toList_some,List.cons_append,List.nil_append,List.mem_cons]at hm;rcases hm with rfl|hm
     ·omega
     ·exact hn.1 (by simp[hm])
    ·simp only[Option.toList_some,List.cons_append,List.nil_append];refine List.nodup_cons.2 ⟨λhm=>?_,(List.nodup_cons.1 hn.2).2⟩;have:=(h3 M1.size (by simp[hm])).2;omega
   ·have:=hx.size;show K x=none/\x<M1.size+1;simp only[Option.toList_some,List.cons_append,List.nil_append,List.mem_cons]at hx';rcases hx' with rfl|rfl|hx'
    ·exact⟨hp.1,by omega⟩
    ·exact⟨hnone M1 hx,by omega⟩
    ·have:=h3 x (by simp[hx']);exact⟨this.1,by omega⟩
   ·show M1.size<=M1.size+1;omega
   ·rw[Mem.get_set_ne _ (by omega),Mem.get_set_ne _ (by omega),Mem.get_push_ne _ (by omega)]
end
end
end Kit
end Go.DI
namespace Go.Proofs.YtgjflcgmieiafaaDoor
open Go Go.DI Go.DI.Kit Go.Proofs Go.Cmp
noncomputable section
theorem gB:Tryd.prog.underlying 30=some (.slice 88):=by kernel_rfl
theorem mo:Bh Tryd.prog 30=some 1:=by kernel_rfl
theorem jE:Bh Tryd.prog 88=some 5:=by kernel_rfl
theorem mq:bytesOf Tryd.prog 88=some 12:=by kernel_rfl
theorem mr:(D5 Tryd.prog 88 1).isSome=true:=by kernel_rfl
theorem mu:Tryd.prog.underlying 58=some (.slice 3):=by kernel_rfl
theorem qG:Bh Tryd.prog 58=some 1:=by kernel_rfl
theorem sq:Bh Tryd.prog 3=some 1:=by kernel_rfl
theorem by3:bytesOf Tryd.prog 3=some 8:=by kernel_rfl
theorem ze3:(D5 Tryd.prog 3 1).isSome=true:=by kernel_rfl
def HN(l:List B1):Bq:=⟨[],[],5,l.length,l.flatMap AP⟩
def NQ(a:Int)(js:List Nat):Bq:=⟨[.int .i64 a],[],1,js.length,js.map λ(j:Nat)=> .int .i64 (j:Int)⟩
def ptr(p:Nat):Value:= .pointer (some ⟨p,0,none⟩)
def DY(c o s:Int)(w r:Bool):Value:= .agg ⟨[.int .i64 c, .int .i64 o, .int .i64 s, .bool w, .bool r]⟩
def EV(x:B1):Value:= .agg ⟨AP x⟩
def Bl:Value:= .tuple ⟨[]⟩
theorem BP{α:Type}(L:Y.LK α)(body:AE->Mem->Y.ExK α->Option α)(c:Code)(h:QD c=true)(k:Nat)(t:AE)(m:Mem)(q:Y.ExK α):GR L body c k t m q=body t m q:=Xw L body h k t m q
theorem cn{α:Type}(cf:Y.CF α)(L:Y.LK α)(k:Nat)(t:AE)(m:Mem)(q:Y.ExK α):Y.codeF (Y.loopC SI 0) Tryd.prog kp 1 (Y.cfT Tryd.prog cf) L 24 k t m q=Y.opsF Vx Tryd.prog kp 1 (Y.cfT Tryd.prog cf) 24 Vx t m λt m=>q .normal t m:=by kernel_rfl
theorem jF{α:Type}(cf:Y.CF α)(L:Y.LK α)(k:Nat)(t:AE)(m:Mem)(q:Y.ExK α):Y.codeF (Y.loopC SI 1) Tryd.prog kp 1 (Y.cfT Tryd.prog cf) L 24 k t m q=Y.opsF bJ Tryd.prog kp 1 (Y.cfT Tryd.prog cf) 24 bJ t m λt m=>q .normal t m:=by kernel_rfl
theorem qH:Tryd.prog.funcs[25]?=some Tryd.f25:=by kernel_rfl
theorem qI:Tryd.f25.body=some (AN Tryd.f25):=by kernel_rfl
theorem qJ:Tryd.f25.ntmps=24:=by kernel_rfl
theorem n35{a b c:Value}:max [a,b,c].length Tryd.f25.ntmps=24:=by rw[qJ];rfl
theorem qK:IP Tryd.prog 25 Bl=true:=by kernel_rfl
def Lh(o:DT)(k:Nat)(w i:Value)(x:B1):Prop:=∀M,M.top->1<=M.size->M.get 0= .cells false gl->∃e M',AL Tryd.prog kp 1 o k 49 [w,i] M=some (.tuple ⟨[EV x, .int .i64 e]⟩,M')/\Ext M M'
set_option maxHeartbeats 400000 in
theorem On{o:DT}{k:Nat}{K:CU}{mp:Nat}{M:Mem}{l:List B1}{hs:List (Nat×Bq)}{wc wo ws:Int}{ww wr:Bool}{i x:B1}(ho:∀a m,o 25 a m=none)(h0:K 0=some (.cells false gl))
  (hl:l.length<=1000000000) (h:Hp M K ((mp,HN l)::hs)) (hmk:Lh o k (DY wc wo ws ww wr) (EV i) x):
  ∃M',AL Tryd.prog kp 1 o (k+1) 25 [ptr mp,DY wc wo ws ww wr,EV i] M=some (Bl,M')/\Hp M' K ((mp,HN (l++ [x]))::hs):=by
 obtain⟨io,id,is,iof,im⟩:=i
 obtain⟨M2,hM2⟩:∃M2,(M.push (.cells true [.int .i64 wc, .int .i64 wo, .int .i64 ws, .bool ww, .bool wr])).push (.cells true [.int .u8 io, .int .u8 id, .int .u8 is, .int .i16 iof, .int .i32 im])=M2:=⟨_,rfl⟩
 have x2:Ext M M2:=hM2▸(Ext.push _ _).trans (Ext.push _ _)
 have g1:M2.get M.size= .cells true [.int .i64 wc, .int .i64 wo, .int .i64 ws, .bool ww, .bool wr]:=by
  rw[←hM2,Mem.get_push_ne _ (by simp),Mem.get_push_same]
 have g2:M2.get (Nat.succ M.size)= .cells true [.int .u8 io, .int .u8 id, .int .u8 is, .int .i16 iof, .int .i32 im]:=by rw[←hM2];exact Mem.get_push_same _ _
 obtain⟨e,M3,c52,x3⟩:=hmk M2 (x2.top h.top) (by have:=x2.size;have:=h.lt h0;omega) ((x2.get 0 (h.lt h0)).trans (h.get h0))
 obtain⟨M4,hM4⟩:∃M4,M3.push (.cells true [.int .u8 0, .int .u8 0, .int .u8 0, .int .i16 0, .int .i32 0])=M4:=⟨_,rfl⟩
 have hst:Bx Tryd.prog M4 88 (EV x) (.pointer (some ⟨M3.size,0,none⟩))=some (M4.set M3.size (.cells true (AP x))):=
  Cn (c:= [.int .u8 0, .int .u8 0, .int .u8 0, .int .i16 0, .int .i32 0]) jE rfl (by rw[←hM4];exact Mem.get_push_same _ _) (by decide) rfl
 obtain⟨M5,hM5⟩:∃M5,M4.set M3.size (.cells true (AP x))=M5:=⟨_,rfl⟩
 have g5:M5.get M3.size= .cells true (AP x):=by rw[←hM5];exact Mem.get_set_same _ _ _
 rw[hM5]at hst
 have x5:Ext M M5:=by
  have x3':=x2.trans x3;subst hM5 hM4;refine⟨by have:=x3'.size;show M.size<=M3.size+1;omega,λj hj=>?_,λt j hj=>?_⟩
  ·have:=x3'.size;rw[Mem.get_set_ne _ (by omega),Mem.get_push_ne _ (by omega)];exact x3'.get j hj
  ·have hj:M3.size+1<=j:=hj;rw[Mem.get_set_ne _ (by omega),Mem.get_push_ne _ (by omega)];exact x3'.top t j (by omega)
 obtain⟨M6,hM6⟩:∃M6,M5.push (.cells true (AP x))=M6:=⟨_,rfl⟩
 have x6:Ext M M6:=hM6▸x5.trans (Ext.push _ _)
 obtain⟨a,gm,happ⟩:=h.append gB mo jE (show(5:Nat)≠0 by decide) mq (by decide) mr (by show(l.length+1)*12<=_/\l.length+1<=_;omega)
 obtain⟨a',M7,M8,p1,p2,h8,_,_⟩:=happ M6 M5.size true (AP x) x6 (by rw[←hM6];exact Mem.get_push_same _ _) rfl rfl
 have gm5:M5.get mp= .cells true [.slice a l.length l.length]:=by
  have hlt:=h.set.1;exact(x5.get mp hlt).trans gm
 have hres:Hp M8 K ((mp,HN (l++ [x]))::hs):=by
  have e1:({HN l with n:=(HN l).n+1,c:=(HN l).c++AP x}:Bq)=HN (l++ [x]):=by simp[HN]
  rw[e1]at h8;exact h8
 refine⟨M8,Bs 24 (ho _ _) qH qI n35 ?_ qK,hres⟩
 refine Eq.trans (UO [2] Tryd.prog kp 1 _ _ 24 k (AN Tryd.f25) (by kernel_rfl) _ M _) ?_
 refine Eq.trans (B5 [1,2] Tryd.prog kp 1 _ (Y.lpOf Tryd.prog kp 1 (AL Tryd.prog kp 1 o k) 24) (λ_ _ _ _ _ _ _=>rfl) 24 k (calm [2] (AN Tryd.f25)) (by kernel_rfl) _ M _) ?_
 refine Eq.trans (jG ..) ?_
 refine Eq.trans (BP _ _ _ (by kernel_rfl) _ _ _ _) ?_
 refine Eq.trans (cn ..) ?_
 refine Eq.trans (Cc 7 ..) ?_
 refine Eq.trans (jH ..) ?_
 rw[hM2,g1,AT]
 rw[show Nat.ble 5 (Y.lenLF [Value.int .i64 wc, .int .i64 wo, .int .i64 ws, .bool ww, .bool wr])=true from rfl,AG,g2,AT]
 rw[show Nat.ble 5 (Y.lenLF [Value.int .u8 io, .int .u8 id, .int .u8 is, .int .i16 iof, .int .i32 im])=true from rfl,AG]
 rw[show Y.subL [Value.int .i64 wc, .int .i64 wo, .int .i64 ws, .bool ww, .bool wr] 0 5= [Value.int .i64 wc, .int .i64 wo, .int .i64 ws, .bool ww, .bool wr]from rfl]
 rw[show Y.subL [Value.int .u8 io, .int .u8 id, .int .u8 is, .int .i16 iof, .int .i32 im] 0 5= [Value.int .u8 io, .int .u8 id, .int .u8 is, .int .i16 iof, .int .i32 im]from rfl]
 have c52':AL Tryd.prog kp 1 o k 49 [.agg ⟨[.int .i64 wc, .int .i64 wo, .int .i64 ws, .bool ww, .bool wr]⟩, .agg ⟨[.int .u8 io, .int .u8 id, .int .u8 is, .int .i16 iof, .int .i32 im]⟩] M2=some (.tuple ⟨[.agg ⟨AP x⟩, .int .i64 e]⟩,M3):=c52
 simp only[gA,c52',Lc,Ju,HT,Ng,BD,jI,Bt,AG]
 rw[hM4]
 refine Eq.trans (jJ ..) ?_
 rw[Y.storeF_eq,show Bx Tryd.prog M4 88 (.agg ⟨AP x⟩) (.pointer (some ⟨M3.size,0,none⟩))=some M5 from hst,Y.ob_some]
 refine Eq.trans (jK ..) ?_
 refine Eq.trans (BP _ _ _ (by kernel_rfl) _ _ _ _) ?_
 refine Eq.trans (jF ..) ?_
 refine Eq.trans (Cc 6 ..) ?_
 refine Eq.trans (jL ..) ?_
 rw[gm5,AT,show Y.nthL [Value.slice a l.length l.length] 0=some (.slice a l.length l.length)from rfl,BM,Dw,g5,AT]
 rw[show Nat.ble 5 (Y.lenLF (AP x))=true from rfl,AG,show Y.subL (AP x) 0 5=AP x from rfl]
 refine Eq.trans (Cc 1 ..) ?_
 refine Eq.trans (cq ..) ?_
 obtain⟨xo,xd,xs,xf,xm⟩:=x
 rw[show M5.push (.cells true [.int .u8 xo, .int .u8 xd, .int .u8 xs, .int .i16 xf, .int .i32 xm])=M6 from hM6]
 rw[show List.drop 1 (List.drop 6 bJ)=List.drop 7 bJ by rw[List.drop_drop]]
 refine Eq.trans (jM ..) ?_
 rw[Y.appendF_eq,show Bp Tryd.prog M6 30 30 (.slice a l.length l.length) (.slice (some ⟨M5.size,0,none⟩) 1 1)=_ from p1,Lc,Y.storeF_eq,show Bx Tryd.prog M7 30 _ (.pointer (some ⟨mp,0,none⟩))=_ from p2,Y.ob_some]
 exact jN ..
theorem qL:Tryd.prog.funcs[27]?=some Tryd.f27:=by kernel_rfl
theorem qM:Tryd.f27.body=some (AN Tryd.f27):=by kernel_rfl
theorem qN:Tryd.f27.ntmps=26:=by kernel_rfl
theorem n37{a b c d:Value}:max [a,b,c,d].length Tryd.f27.ntmps=26:=by rw[qN];rfl
theorem qO:IP Tryd.prog 27 Bl=true:=by kernel_rfl
theorem jO{α:Type}(cf:Y.CF α)(L:Y.LK α)(k:Nat)(t:AE)(m:Mem)(q:Y.ExK α):Y.codeF (Y.loopC mH 0) Tryd.prog kp 1 (Y.cfT Tryd.prog cf) L 26 k t m q=Y.opsF mI Tryd.prog kp 1 (Y.cfT Tryd.prog cf) 26 mI t m λt m=>q .normal t m:=by kernel_rfl
set_option maxHeartbeats 400000 in
theorem Xx{o:DT}{k:Nat}{K:CU}{mp lp:Nat}{M:Mem}{l:List B1}{at_:Int}{js:List Nat}{hs:List (Nat×Bq)}{wc wo ws:Int}{ww wr:Bool}{i x:B1}(ho:∀a m,o 25 a m=none)(ho2:∀a m,o 27 a m=none)(h0:K 0=some (.cells false gl))
  (hl:l.length<=1000000000) (hj:js.length<=1000000000) (h:Hp M K ((mp,HN l)::(lp,NQ at_ js)::hs)) (hmk:Lh o k (DY wc wo ws ww wr) (EV i) x):
  ∃M',AL Tryd.prog kp 1 o (k+2) 27 [ptr mp,DY wc wo ws ww wr,EV i,ptr lp] M=some (Bl,M')/\Hp M' K ((mp,HN (l++ [x]))::(lp,NQ at_ (js++ [l.length]))::hs):=by
 obtain⟨io,id,is,iof,im⟩:=i
 obtain⟨M2,hM2⟩:∃M2,(M.push (.cells true [.int .i64 wc, .int .i64 wo, .int .i64 ws, .bool ww, .bool wr])).push (.cells true [.int .u8 io, .int .u8 id, .int .u8 is, .int .i16 iof, .int .i32 im])=M2:=⟨_,rfl⟩
 have x2:Ext M M2:=hM2▸(Ext.push _ _).trans (Ext.push _ _)
 have s2:M2.size=M.size+2:=by rw[←hM2];rfl
 have g1:M2.get M.size= .cells true [.int .i64 wc, .int .i64 wo, .int .i64 ws, .bool ww, .bool wr]:=by
  rw[←hM2,Mem.get_push_ne _ (by simp),Mem.get_push_same]
 have g2:M2.get (Nat.succ M.size)= .cells true [.int .u8 io, .int .u8 id, .int .u8 is, .int .i16 iof, .int .i32 im]:=by rw[←hM2];exact Mem.get_push_same _ _
 have h':=h.perm (List.Perm.swap (lp,NQ at_ js) (mp,HN l) hs)
 obtain⟨hmp,_,u,⟨am,rfl⟩,gm,_⟩:=h.set
 have hlp:=h'.set.1
 obtain⟨a,gl_,happ⟩:=h'.append mu qG sq (show(1:Nat)≠0 by decide) by3 (by decide) ze3 (by show(js.length+1)*8<=_/\js.length+1<=_;omega)
 obtain⟨M6,hM6⟩:∃M6,M2.push (.cells true [.int .i64 (Int.ofNat l.length)])=M6:=⟨_,rfl⟩
 have x6:Ext M M6:=hM6▸x2.trans (Ext.push _ _)
 have s6:M6.size=M.size+3:=by rw[←hM6];show M2.size+1=_;omega
 obtain⟨a',M7,M8,p1,p2,h8,_,fr⟩:=happ M6 M2.size true [.int .i64 (Int.ofNat l.length)] x6 (by rw[←hM6];exact Mem.get_push_same _ _) rfl rfl
 have e1:({NQ at_ js with n:=(NQ at_ js).n+1,c:=(NQ at_ js).c++ [.int .i64 (Int.ofNat l.length)]}:Bq)=NQ at_ (js++ [l.length]):=by simp[NQ]
 rw[e1]at h8
 have gm2:M2.get mp= .cells true [.slice am l.length l.length]:=(x2.get mp hmp).trans gm
 have gl2:M2.get lp= .cells true [.int .i64 at_, .slice a js.length js.length]:=(x2.get lp hlp).trans gl_
 have q1:M8.get M.size= .cells true [.int .i64 wc, .int .i64 wo, .int .i64 ws, .bool ww, .bool wr]:=by
  rw[fr _ (by omega) (by omega),←hM6,Mem.get_push_ne _ (by omega)];exact g1
 have q2:M8.get (Nat.succ M.size)= .cells true [.int .u8 io, .int .u8 id, .int .u8 is, .int .i16 iof, .int .i32 im]:=by
  rw[fr _ (by omega) (by omega),←hM6,Mem.get_push_ne _ (by omega)];exact g2
 obtain⟨M9,SI,h9⟩:=On (k:=k) (hs:=(lp,NQ at_ (js++ [l.length]))::hs) (i:=⟨io,id,is,iof,im⟩) ho h0 hl (h8.perm (List.Perm.swap (mp,HN l) (lp,NQ at_ (js++ [l.length])) hs)) hmk
 refine⟨M9,Bs 26 (ho2 _ _) qL qM n37 ?_ qO,h9⟩
 refine Eq.trans (UO [1] Tryd.prog kp 1 _ _ 26 (k+1) (AN Tryd.f27) (by kernel_rfl) _ M _) ?_
 refine Eq.trans (B5 [1] Tryd.prog kp 1 _ (Y.lpOf Tryd.prog kp 1 (AL Tryd.prog kp 1 o (k+1)) 26) (λ_ _ _ _ _ _ _=>rfl) 26 (k+1) (calm [1] (AN Tryd.f27)) (by kernel_rfl) _ M _) ?_
 refine Eq.trans (cr ..) ?_
 rw[hM2]
 refine Eq.trans (BP _ _ _ (by kernel_rfl) _ _ _ _) ?_
 refine Eq.trans (jO ..) ?_
 refine Eq.trans (Cc 11 ..) ?_
 refine Eq.trans (cu ..) ?_
 rw[gl2,AT,show Y.nthL [Value.int .i64 at_,Value.slice a js.length js.length] 1=some (.slice a js.length js.length)from rfl,BM,Dw,gm2,AT,show Y.nthL [Value.slice am l.length l.length] 0=some (.slice am l.length l.length)from rfl,BM,Dw,hM6]
 refine Eq.trans (cw ..) ?_
 rw[Y.appendF_eq,show Bp Tryd.prog M6 58 58 (.slice a js.length js.length) (.slice (some ⟨M2.size,0,none⟩) 1 1)=_ from p1,Lc,Y.storeF_eq,show Bx Tryd.prog M7 58 _ (.pointer (some ⟨lp,1,none⟩))=_ from p2,Y.ob_some]
 refine Eq.trans (cy ..) ?_
 rw[q1,AT]
 rw[show Nat.ble 5 (Y.lenLF [Value.int .i64 wc, .int .i64 wo, .int .i64 ws, .bool ww, .bool wr])=true from rfl,AG,q2,AT]
 rw[show Nat.ble 5 (Y.lenLF [Value.int .u8 io, .int .u8 id, .int .u8 is, .int .i16 iof, .int .i32 im])=true from rfl,AG]
 rw[show Y.subL [Value.int .i64 wc, .int .i64 wo, .int .i64 ws, .bool ww, .bool wr] 0 5= [Value.int .i64 wc, .int .i64 wo, .int .i64 ws, .bool ww, .bool wr]from rfl]
 rw[show Y.subL [Value.int .u8 io, .int .u8 id, .int .u8 is, .int .i16 iof, .int .i32 im] 0 5= [Value.int .u8 io, .int .u8 id, .int .u8 is, .int .i16 iof, .int .i32 im]from rfl]
 rw[gA,show AL Tryd.prog kp 1 o (k+1) 25 [.pointer (some ⟨mp,0,none⟩), .agg ⟨[.int .i64 wc, .int .i64 wo, .int .i64 ws, .bool ww, .bool wr]⟩, .agg ⟨[.int .u8 io, .int .u8 id, .int .u8 is, .int .i16 iof, .int .i32 im]⟩] M8=some (Bl,M9)from SI,Lc]
 rfl
theorem qP:Tryd.prog.funcs[32]?=some Tryd.f32:=by kernel_rfl
theorem qQ:Tryd.f32.body=some (AN Tryd.f32):=by kernel_rfl
theorem qR:Tryd.f32.ntmps=28:=by kernel_rfl
theorem n42{a b c:Value}:max [a,b,c].length Tryd.f32.ntmps=28:=by rw[qR];rfl
theorem qS:IP Tryd.prog 32 Bl=true:=by kernel_rfl
theorem jP{α:Type}(cf:Y.CF α)(L:Y.LK α)(k:Nat)(t:AE)(m:Mem)(q:Y.ExK α):Y.codeF (Y.loopC mJ 0) Tryd.prog kp 1 (Y.cfT Tryd.prog cf) L 28 k t m q=Y.opsF mK Tryd.prog kp 1 (Y.cfT Tryd.prog cf) 28 mK t m λt m=>q .normal t m:=by kernel_rfl
theorem dA(l:List B1)(x:B1):({HN l with n:=(HN l).n+1,c:=(HN l).c++AP x}:Bq)=HN (l++ [x]):=by simp[HN]
theorem jQ{K:CU}{mp:Nat}{M:Mem}{l:List B1}{hs:List (Nat×Bq)}(hl:l.length<=1000000000)(h:Hp M K ((mp,HN l)::hs))(x:B1){M1:Mem}{nb:Nat}(hx:Ext M M1)(hn:M1.get nb= .cells true (AP x)):
  ∃a a' M2 M3,M.get mp= .cells true [.slice a l.length l.length]/\Bp Tryd.prog M1 30 30 (.slice a l.length l.length) (.slice (some ⟨nb,0,none⟩) 1 1)=some (.slice a' (l.length+1) (l.length+1),M2)/\Bx Tryd.prog M2 30 (.slice a' (l.length+1) (l.length+1)) (.pointer (some ⟨mp,0,none⟩))=some M3/\Hp M3 K ((mp,HN (l++ [x]))::hs):=by
 obtain⟨a,gm,happ⟩:=h.append gB mo jE (show(5:Nat)≠0 by decide) mq (by decide) mr (by show(l.length+1)*12<=_/\l.length+1<=_;omega)
 obtain⟨a',M7,M8,p1,p2,h8,_,_⟩:=happ M1 nb true (AP x) hx hn rfl rfl
 rw[dA]at h8
 exact⟨a,a',M7,M8,gm,p1,p2,h8⟩
def Vy(n:Int):Int:=IntKind.wrap .i32 (IntKind.wrap .u32 n)
set_option maxHeartbeats 400000 in
theorem Vz{o:DT}{k:Nat}{K:CU}{mp:Nat}{M:Mem}{l:List B1}{hs:List (Nat×Bq)}{d n:Int}{x:B1}(ho:∀a m,o 25 a m=none)(ho2:∀a m,o 32 a m=none)(h0:K 0=some (.cells false gl))
  (hl:l.length<=100000000) (h:Hp M K ((mp,HN l)::hs)) (hmk:Lh o k (DY 10 0 0 false false) (EV ⟨0,d,0,0,Vy n⟩) x):
  ∃M',AL Tryd.prog kp 1 o (k+2) 32 [ptr mp, .int .u8 d, .int .u64 n] M=some (Bl,M')/\Hp M' K ((mp,HN (l++ [x,⟨0,0,0,0,Vy (Int.fdiv n 4294967296)⟩]))::hs):=by
 obtain⟨M1,SI,h1⟩:=On (k:=k) ho h0 (by omega) h hmk
 obtain⟨a,a',M7,M8,gm,p1,p2,h8⟩:=jQ (by simp;omega) h1 ⟨0,0,0,0,Vy (Int.fdiv n 4294967296)⟩ (Ext.push M1 (.cells true (AP ⟨0,0,0,0,Vy (Int.fdiv n 4294967296)⟩))) (Mem.get_push_same _ _)
 rw[List.append_assoc]at h8
 refine⟨M8,Bs 28 (ho2 _ _) qP qQ n42 ?_ qS,h8⟩
 refine Eq.trans (B5 [1] Tryd.prog kp 1 _ (Y.lpOf Tryd.prog kp 1 (AL Tryd.prog kp 1 o (k+1)) 28) (λ_ _ _ _ _ _ _=>rfl) 28 (k+1) (AN Tryd.f32) (by kernel_rfl) _ M _) ?_
 refine Eq.trans (jR ..) ?_
 rw[gA,show AL Tryd.prog kp 1 o (k+1) 25 [.pointer (some ⟨mp,0,none⟩), .agg ⟨[.int .i64 10, .int .i64 0, .int .i64 0, .bool false, .bool false]⟩, .agg ⟨[.int .u8 0, .int .u8 d, .int .u8 0, .int .i16 0, .int .i32 (IntKind.wrap .i32 (IntKind.wrap .u32 n))]⟩] M=some (Bl,M1)from SI,Lc]
 refine Eq.trans (BP _ _ _ (by kernel_rfl) _ _ _ _) ?_
 refine Eq.trans (jP ..) ?_
 refine Eq.trans (Cc 11 ..) ?_
 refine Eq.trans (jS ..) ?_
 obtain⟨l1,hl1⟩:∃l1,l++ [x]=l1:=⟨_,rfl⟩
 rw[hl1]at gm p1 p2
 rw[gm,AT,show Y.nthL [Value.slice a l1.length l1.length] 0=some (.slice a l1.length l1.length)from rfl,BM,Dw]
 refine Eq.trans (jT ..) ?_
 rw[Y.appendF_eq,show Bp Tryd.prog (M1.push (.cells true [.int .u8 0, .int .u8 0, .int .u8 0, .int .i16 0, .int .i32 (IntKind.wrap .i32 (IntKind.wrap .u32 (Int.fdiv n 4294967296)))])) 30 30 (.slice a l1.length l1.length) (.slice (some ⟨M1.size,0,none⟩) 1 1)=_ from p1,Lc,Y.storeF_eq,show Bx Tryd.prog M7 30 _ (.pointer (some ⟨mp,0,none⟩))=_ from p2,Y.ob_some]
 exact jU ..
end
end Go.Proofs.YtgjflcgmieiafaaDoor
namespace Go.Cmp
open Go Go.DI
theorem Ic(f:Nat->Option Nat)(a:List A9)(x:B1):C1 f (a++ [ins x 0]) 0=C1 f a 0++ [x]:=by
 rw[Dn];simp[C1,ins,BY]
theorem SN{f:Nat->Option Nat}(a:List A9)(x:B1){l:Nat}(hf:f l=none):C1 f (a++ [ins x l]) 0=C1 f a 0++ [x]:=by
 rw[Dn];simp[C1,ins,BY,hf]
theorem Nm(f:Nat->Option Nat)(a:List A9){l:Nat}(hl:0<l):C1 f (a++ [lab l]) 0=C1 f a 0:=by
 rw[Dn];simp[C1,lab,BY,hl]
theorem Lj:∀a:List A9,BU a<=a.length
 | []=>Nat.le_refl _
 |r::a=>by
  have:=Lj a;simp only[BU,List.length_cons];split<;>omega
theorem Ns(a:List A9)(x:B1)(to l:Nat):Bk l (a++ [ins x to]) 0=Bk l a 0++(if to=l then [BU a]else []):=by
 rw[Ew];simp[Bk,ins,BY]
theorem KE(a:List A9)(l:Nat){l':Nat}(hl:0<l'):Bk l (a++ [lab l']) 0=Bk l a 0:=by
 rw[Ew];simp[Bk,lab,BY,hl]
theorem F4(l:Nat):∀(a:List A9) (n:Nat),(Bk l a n).length<=BU a
 | [],n=>Nat.le_refl _
 |r::a,n=>by
  have h1:=F4 l a n;have h2:=F4 l a (n+1);simp only[Bk,BU];split
  ·exact h1
  ·rw[List.length_append];split
   ·simp;omega
   ·simp;omega
theorem HZ{l:Nat}:∀(a:List A9) (n:Nat),(∀r∈a,r.to≠l)->Bk l a n= []
 | [],n,_=>rfl
 |r::a,n,h=>by
  simp only[Bk];rw[HZ a n λr hr=>h r (by simp[hr]),HZ a (n+1) λr hr=>h r (by simp[hr]),if_neg (h r (by simp))];simp
theorem GD:∀(a b:List A9) (n:Nat) (f:Nat->Nat),Gm (a++b) n f=Gm b (n+BU a) (Gm a n f)
 | [],b,n,f=>by simp[Gm,BU]
 |r::a,b,n,f=>by
  simp only[List.cons_append,Gm,BU];split
  ·exact GD a b n _
  ·rw[GD a b (n+1) f,show n+1+BU a=n+(BU a+1)by omega]
theorem Ht(a:List A9)(x:B1)(to l:Nat):JM (a++ [ins x to]) l=JM a l:=by
 unfold JM;rw[GD];simp[Gm,ins,BY]
theorem JT(a:List A9){l:Nat}(hl:0<l)(j:Nat):JM (a++ [lab l]) j=if j=l then BU a else JM a j:=by
 unfold JM;rw[GD];simp[Gm,lab,BY,hl]
theorem Lm{l:Nat}(hl:0<l):∀(a:List A9) (n:Nat) (f:Nat->Nat),(∀r∈a,r.here≠l)->Gm a n f l=f l
 | [],n,f,_=>rfl
 |r::a,n,f,h=>by
  simp only[Gm];split
  ·rw[Lm hl a n _ λr hr=>h r (by simp[hr]),if_neg (λe=>h r (by simp) e.symm)]
  ·exact Lm hl a (n+1) f λr hr=>h r (by simp[hr])
theorem WH{l:Nat}(hl:0<l)(a:List A9)(h:∀r∈a,r.here≠l):JM a l=0:=Lm hl a 0 _ h
theorem SO:∀(a:List A9) (n:Nat) (f:Nat->Nat) (c:Nat),n+BU a<=c->(∀j,f j<=c)->∀j,Gm a n f j<=c
 | [],n,f,c,_,hf,j=>hf j
 |r::a,n,f,c,hc,hf,j=>by
  simp only[Gm,BU]at hc ⊢;split
  ·rename_i h;rw[if_pos h]at hc;refine SO a n _ c hc (λj=>?_) j;split
   ·omega
   ·exact hf j
  ·rename_i h;rw[if_neg h]at hc;exact SO a (n+1) f c (by omega) hf j
theorem dK(a:List A9)(j:Nat):JM a j<=BU a:=SO a 0 _ _ (by omega) (λ_=>Nat.zero_le _) j
theorem SP(f:Nat->Option Nat)(a:List A9)(hs:∀l q,f l=some q->q=JM a l)(hk:∀r∈a,0<r.to->(f r.to).isSome):C1 f a 0=B6 a:=by
 refine Ib f _ a 0 λr hr _ h0=>?_
 have h1:=hk r hr h0
 cases h:f r.to with
 |none=>rw[h]at h1;cases h1
 |some q=>rw[hs _ _ h]
end Go.Cmp
namespace Go.Proofs.YtgjflcgmieiafaaDoor
open Go Go.DI Go.DI.Kit Go.Proofs Go.Cmp
noncomputable section
def Oq(rows:List A9)(x:Nat×Nat):Nat×Bq:=(x.1,NQ (JM rows x.2:Int) (Bk x.2 rows 0))
structure rR(K:CU)(mp:Nat)(f:Nat->Option Nat)(rows:List A9)(AJ:List (Nat×Nat))(fr:Nat->Prop)(M:Mem):Prop where
 hp:Hp M K ((mp,HN (C1 f rows 0))::AJ.map (Oq rows))
 glob:K 0=some (.cells false gl)
 pos:∀x∈AJ,0<x.2/\f x.2=none
 nod:(AJ.map (·.2)).Nodup
 free:∀l,fr l->0<l/\f l=none/\(∀x∈AJ,x.2≠l)/\∀r∈rows,r.to≠l/\r.here≠l
 sett:∀l q,f l=some q->q=JM rows l
 known:∀r∈rows,0<r.to->(∃x∈AJ,x.2=r.to)\/(f r.to).isSome
def St(K:CU)(mp:Nat)(rows:List A9)(AJ:List (Nat×Nat))(fr:Nat->Prop)(M:Mem):Prop:=∃f,rR K mp f rows AJ fr M
section
variable{K K':CU}{mp:Nat}{rows:List A9}{AJ labs':List (Nat×Nat)}{fr fr':Nat->Prop}{M M':Mem}
theorem St.frees(h:St K mp rows AJ fr M)(hf:∀l,fr' l->fr l):St K mp rows AJ fr' M:=by
 obtain⟨f,h⟩:=h
 exact⟨f,h.hp,h.glob,h.pos,h.nod,λl hl=>h.free l (hf l hl),h.sett,h.known⟩
theorem St.weak(h:St K' mp rows AJ fr M)(hg:K 0=some (.cells false gl))(hw:∀j x,K j=some x->K' j=some x):St K mp rows AJ fr M:=by
 obtain⟨f,h⟩:=h
 exact⟨f,h.hp.weak hw,hg,h.pos,h.nod,h.free,h.sett,h.known⟩
theorem St.ext(h:St K mp rows AJ fr M)(hx:Ext M M'):St K mp rows AJ fr M':=by
 obtain⟨f,h⟩:=h
 exact⟨f,h.hp.ext hx,h.glob,h.pos,h.nod,h.free,h.sett,h.known⟩
theorem St.top(h:St K mp rows AJ fr M):M.top:=by obtain⟨f,h⟩:=h;exact h.hp.top
theorem St.get(h:St K mp rows AJ fr M){j:Nat}{x:BI}(hj:K j=some x):M.get j=x:=by obtain⟨f,h⟩:=h;exact h.hp.get hj
theorem St.lt(h:St K mp rows AJ fr M){j:Nat}{x:BI}(hj:K j=some x):j<M.size:=by obtain⟨f,h⟩:=h;exact h.hp.lt hj
theorem St.glb(h:St K mp rows AJ fr M):K 0=some (.cells false gl):=by obtain⟨f,h⟩:=h;exact h.glob
theorem St.box(h:St K mp rows AJ fr M)(x:BI):St (FB K M.size x) mp rows AJ fr (M.push x)/\∀j y,K j=some y->FB K M.size x j=some y:=by
 obtain⟨f,h⟩:=h
 have hb:=h.hp.boxP x
 exact⟨⟨f,hb.1,hb.2 _ _ h.glob,h.pos,h.nod,h.free,h.sett,h.known⟩,hb.2⟩
theorem St.perm(h:St K mp rows AJ fr M)(hp:AJ.Perm labs'):St K mp rows labs' fr M:=by
 obtain⟨f,h⟩:=h
 exact⟨f,h.hp.perm ((hp.map _).cons _),h.glob,λx hx=>h.pos x (hp.mem_iff.2 hx),(hp.map _).nodup_iff.1 h.nod,λl hl=>⟨(h.free l hl).1,(h.free l hl).2.1,λx hx=>(h.free l hl).2.2.1 x (hp.mem_iff.2 hx),(h.free l hl).2.2.2⟩,h.sett,λr hr h0=>by
  rcases h.known r hr h0 with⟨x,hx,he⟩|hs
  ·exact .inl ⟨x,hp.mem_iff.1 hx,he⟩
  ·exact .inr hs⟩
theorem St.label(h:St K mp rows AJ fr M){l:Nat}(hl:fr l):St K mp rows ((M.size,l)::AJ) (λj=>fr j/\j≠l) (M.push (.cells true [.int .i64 0, .slice none 0 0])):=by
 obtain⟨f,h⟩:=h
 obtain⟨h0,h1,h2,h3⟩:=h.free l hl
 refine⟨f,?_,h.glob,?_,?_,?_,h.sett,?_⟩
 ·have hp:=h.hp.push [.int .i64 0] [] 1
  have e:Oq rows (M.size,l)=(M.size,⟨[.int .i64 0],[],1,0,[]⟩):=by
   simp only[Oq,WH h0 rows (λr hr=>(h3 r hr).2),HZ rows 0 (λr hr=>(h3 r hr).1)];rfl
  rw[List.map_cons,e];exact hp.perm (List.Perm.swap _ _ _)
 ·intro x hx;rcases List.mem_cons.1 hx with rfl|hx
  ·exact⟨h0,h1⟩
  ·exact h.pos x hx
 ·rw[List.map_cons];refine List.nodup_cons.2 ⟨λhm=>?_,h.nod⟩;obtain⟨x,hx,he⟩:=List.mem_map.1 hm;exact h2 x hx he
 ·intro j hj;obtain⟨g0,g1,g2,g3⟩:=h.free j hj.1;refine⟨g0,g1,λx hx=>?_,g3⟩;rcases List.mem_cons.1 hx with rfl|hx
  ·exact λe=>hj.2 e.symm
  ·exact g2 x hx
 ·intro r hr h0;rcases h.known r hr h0 with⟨x,hx,he⟩|hs
  ·exact .inl ⟨x,List.mem_cons_of_mem _ hx,he⟩
  ·exact .inr hs
theorem JX(x:B1){to:Nat}{AJ:List (Nat×Nat)}(h:∀y∈AJ,y.2≠to):AJ.map (Oq (rows++ [ins x to]))=AJ.map (Oq rows):=by
 refine List.map_congr_left λy hy=>?_
 simp only[Oq,Ht,Ns]
 rw[if_neg (λe=>h y hy e.symm),List.append_nil]
section
variable{o:DT}{k:Nat}
theorem jY{wc wo ws:Int}{ww wr:Bool}{i x:B1}(ho:∀a m,o 25 a m=none)(hl:rows.length<=100000)(h:St K mp rows AJ fr M)(hmk:Lh o k (DY wc wo ws ww wr) (EV i) x):
  ∃M',AL Tryd.prog kp 1 o (k+1) 25 [ptr mp,DY wc wo ws ww wr,EV i] M=some (Bl,M')/\St K mp (rows++ [ins x 0]) AJ fr M':=by
 obtain⟨f,h⟩:=h
 have hc:=Lj rows
 have hlen:=Bo f rows 0
 obtain⟨M',c,h'⟩:=On ho h.glob (by omega) h.hp hmk
 refine⟨M',c,f,?_,h.glob,h.pos,h.nod,?_,?_,?_⟩
 ·rw[JX x λy hy=>Nat.pos_iff_ne_zero.1 (h.pos y hy).1,Ic];exact h'
 ·intro l hl;obtain⟨g0,g1,g2,g3⟩:=h.free l hl;refine⟨g0,g1,g2,λr hr=>?_⟩;rcases List.mem_append.1 hr with hr|hr
  ·exact g3 r hr
  ·obtain rfl:=List.mem_singleton.1 hr;exact⟨by show 0≠l;omega,by show 0≠l;omega⟩
 ·intro l q hq;rw[Ht];exact h.sett l q hq
 ·intro r hr h0;rcases List.mem_append.1 hr with hr|hr
  ·exact h.known r hr h0
  ·obtain rfl:=List.mem_singleton.1 hr;exact absurd h0 (Nat.lt_irrefl 0)
theorem dD{wc wo ws:Int}{ww wr:Bool}{i x:B1}{lp l:Nat}(hm:(lp,l)∈AJ)(ho:∀a m,o 25 a m=none)(ho2:∀a m,o 27 a m=none)(hl:rows.length<=100000)(h:St K mp rows AJ fr M)(hmk:Lh o k (DY wc wo ws ww wr) (EV i) x):
  ∃M',AL Tryd.prog kp 1 o (k+2) 27 [ptr mp,DY wc wo ws ww wr,EV i,ptr lp] M=some (Bl,M')/\St K mp (rows++ [ins x l]) AJ fr M':=by
 obtain⟨l1,l2,rfl⟩:=List.append_of_mem hm
 have hp:=List.perm_middle (a:=(lp,l)) (l₁:=l1) (l₂:=l2)
 suffices hs:∃M',AL Tryd.prog kp 1 o (k+2) 27 [ptr mp,DY wc wo ws ww wr,EV i,ptr lp] M=some (Bl,M')/\St K mp (rows++ [ins x l]) ((lp,l)::(l1++l2)) fr M' by
  obtain⟨M',c,h'⟩:=hs;exact⟨M',c,h'.perm hp.symm⟩
 obtain⟨f,h⟩:=h.perm hp
 have hc:=Lj rows
 have hlen:=Bo f rows 0
 have hjl:=F4 l rows 0
 have hpos:=h.pos (lp,l) (List.mem_cons_self ..)
 have hnod:=List.nodup_cons.1 h.nod
 obtain⟨M',c,h'⟩:=Xx (at_:=(JM rows l:Int)) (js:=Bk l rows 0) ho ho2 h.glob (by omega) (by omega) h.hp hmk
 have hne:∀y∈l1++l2,y.2≠l:=λy hy e=>hnod.1 (List.mem_map.2 ⟨y,hy,e⟩)
 refine⟨M',c,f,?_,h.glob,h.pos,h.nod,?_,?_,?_⟩
 ·rw[List.map_cons,JX x hne,SN rows x hpos.2]
  have e:Oq (rows++ [ins x l]) (lp,l)=(lp,NQ (JM rows l:Int) (Bk l rows 0++ [(C1 f rows 0).length])):=by
   simp only[Oq,Ht,Ns,if_true,hlen]
  rw[e];exact h'
 ·intro j hj;obtain⟨g0,g1,g2,g3⟩:=h.free j hj;refine⟨g0,g1,g2,λr hr=>?_⟩;rcases List.mem_append.1 hr with hr|hr
  ·exact g3 r hr
  ·obtain rfl:=List.mem_singleton.1 hr;exact⟨g2 (lp,l) (List.mem_cons_self ..),by show 0≠j;omega⟩
 ·intro l q hq;rw[Ht];exact h.sett l q hq
 ·intro r hr h0;rcases List.mem_append.1 hr with hr|hr
  ·exact h.known r hr h0
  ·obtain rfl:=List.mem_singleton.1 hr;exact .inl ⟨(lp,l),List.mem_cons_self ..,rfl⟩
theorem QF{d n:Int}{x:B1}(ho:∀a m,o 25 a m=none)(ho2:∀a m,o 32 a m=none)(hl:rows.length<=100000)(h:St K mp rows AJ fr M)(hmk:Lh o k (DY 10 0 0 false false) (EV ⟨0,d,0,0,Vy n⟩) x):
  ∃M',AL Tryd.prog kp 1 o (k+2) 32 [ptr mp, .int .u8 d, .int .u64 n] M=some (Bl,M')/\St K mp (rows++ [ins x 0,ins ⟨0,0,0,0,Vy (Int.fdiv n 4294967296)⟩ 0]) AJ fr M':=by
 obtain⟨f,h⟩:=h
 have hc:=Lj rows
 have hlen:=Bo f rows 0
 obtain⟨M',c,h'⟩:=Vz ho ho2 h.glob (by omega) h.hp hmk
 refine⟨M',c,f,?_,h.glob,h.pos,h.nod,?_,?_,?_⟩
 ·have hz:∀y∈AJ,y.2≠0:=λy hy=>Nat.pos_iff_ne_zero.1 (h.pos y hy).1;rw[show rows++ [ins x 0,ins ⟨0,0,0,0,Vy (Int.fdiv n 4294967296)⟩ 0]=(rows++ [ins x 0])++ [ins ⟨0,0,0,0,Vy (Int.fdiv n 4294967296)⟩ 0]by simp,JX _ hz,JX _ hz,Ic,Ic,List.append_assoc];exact h'
 ·intro l hl;obtain⟨g0,g1,g2,g3⟩:=h.free l hl;refine⟨g0,g1,g2,λr hr=>?_⟩;rcases List.mem_append.1 hr with hr|hr
  ·exact g3 r hr
  ·simp only[List.mem_cons,List.not_mem_nil,or_false]at hr;rcases hr with rfl|rfl
   ·exact⟨by show 0≠l;omega,by show 0≠l;omega⟩
   ·exact⟨by show 0≠l;omega,by show 0≠l;omega⟩
 ·intro l q hq;rw[show rows++ [ins x 0,ins ⟨0,0,0,0,Vy (Int.fdiv n 4294967296)⟩ 0]=(rows++ [ins x 0])++ [ins ⟨0,0,0,0,Vy (Int.fdiv n 4294967296)⟩ 0]by simp,Ht,Ht];exact h.sett l q hq
 ·intro r hr h0;rcases List.mem_append.1 hr with hr|hr
  ·exact h.known r hr h0
  ·simp only[List.mem_cons,List.not_mem_nil,or_false]at hr;rcases hr with rfl|rfl
   ·exact absurd h0 (Nat.lt_irrefl 0)
   ·exact absurd h0 (Nat.lt_irrefl 0)
end
theorem St.made(h:St K mp rows [] fr M):Hp M K [(mp,HN (B6 rows))]:=by
 obtain⟨f,h⟩:=h
 have e:=SP f rows h.sett λr hr h0=>by
  rcases h.known r hr h0 with⟨x,hx,_⟩|hs
  ·simp at hx
  ·exact hs
 rw[←e];exact h.hp
end
set_option maxHeartbeats 4000000
variable{α:Type}(x:Nat->Value)(cf:Y.CF α)(L:Y.LK α)(k:Nat)(m:Mem)
noncomputable def mM:Code:=D7 [3] (BW Tryd.f18 0)
noncomputable def mL:List Oper:=CE 3 (AN Tryd.f18)
noncomputable def YD:Code:=D7 [3] (BW Tryd.f19 0)
noncomputable def pM:List Oper:=CE 3 (AN Tryd.f19)
noncomputable def QG:Code:=D7 [6] (BW Tryd.f19 1)
noncomputable def j5:List Oper:=CE 6 (AN Tryd.f19)
noncomputable def E1:Code:=D7 [13,22,24,26] (AN Tryd.f16)
noncomputable def Ow:List Oper:=CE 13 (AN Tryd.f16)
noncomputable def Ox:List Oper:=CE 22 (AN Tryd.f16)
noncomputable def Oy:List Oper:=CE 24 (AN Tryd.f16)
noncomputable def Oz:List Oper:=CE 26 (AN Tryd.f16)
theorem nC(mp:Nat)(op d n:Int)(q:Value->Mem->Option α):Y.codeF (AN Tryd.f26) Tryd.prog kp 1 (Y.cfT Tryd.prog cf) L 15 k (AA 15 (CM [.pointer (some ⟨mp,0,none⟩),.int .i64 op,.int .u8 d,.int .i32 n])) m (Y.retF Tryd.prog Tryd.f26 q)=
 (cf 25 [.pointer (some ⟨mp,0,none⟩),.agg ⟨[.int .i64 1,.int .i64 op,.int .i64 0,.bool true,.bool false]⟩,.agg ⟨[.int .u8 0,.int .u8 d,.int .u8 0,.int .i16 0,.int .i32 n]⟩] m (λB A=>q (.tuple ⟨[]⟩) A)):=by kernel_rfl
theorem jZ(mp:Nat)(op d s:Int)(q:Value->Mem->Option α):Y.codeF (AN Tryd.f12) Tryd.prog kp 1 (Y.cfT Tryd.prog cf) L 15 k (AA 15 (CM [.pointer (some ⟨mp,0,none⟩),.int .i64 op,.int .u8 d,.int .u8 s])) m (Y.retF Tryd.prog Tryd.f12 q)=
 (cf 25 [.pointer (some ⟨mp,0,none⟩),.agg ⟨[.int .i64 1,.int .i64 op,.int .i64 0,.bool true,.bool true]⟩,.agg ⟨[.int .u8 0,.int .u8 d,.int .u8 s,.int .i16 0,.int .i32 0]⟩] m (λB A=>q (.tuple ⟨[]⟩) A)):=by kernel_rfl
theorem j0(mp:Nat)(z d s n:Int)(q:Value->Mem->Option α):Y.codeF (AN Tryd.f13) Tryd.prog kp 1 (Y.cfT Tryd.prog cf) L 19 k (AA 19 (CM [.pointer (some ⟨mp,0,none⟩),.int .i64 z,.int .u8 d,.int .u8 s,.int .i64 n])) m (Y.retF Tryd.prog Tryd.f13 q)=
 (cf 25 [.pointer (some ⟨mp,0,none⟩),.agg ⟨[.int .i64 3,.int .i64 0,.int .i64 z,.bool false,.bool false]⟩,.agg ⟨[.int .u8 0,.int .u8 d,.int .u8 s,.int .i16 (IntKind.wrap .i16 n),.int .i32 0]⟩] m (λB A=>q (.tuple ⟨[]⟩) A)):=by kernel_rfl
theorem j1(mp lp:Nat)(op d n:Int)(q:Value->Mem->Option α):Y.codeF (AN Tryd.f15) Tryd.prog kp 1 (Y.cfT Tryd.prog cf) L 18 k (AA 18 (CM [.pointer (some ⟨mp,0,none⟩),.int .i64 op,.int .u8 d,.int .i32 n,.pointer (some ⟨lp,0,none⟩)])) m (Y.retF Tryd.prog Tryd.f15 q)=
 (cf 27 [.pointer (some ⟨mp,0,none⟩),.agg ⟨[.int .i64 6,.int .i64 op,.int .i64 0,.bool true,.bool false]⟩,.agg ⟨[.int .u8 0,.int .u8 d,.int .u8 0,.int .i16 0,.int .i32 n]⟩,.pointer (some ⟨lp,0,none⟩)] m (λB A=>q (.tuple ⟨[]⟩) A)):=by kernel_rfl
theorem j2(mp lp:Nat)(q:Value->Mem->Option α):Y.codeF (AN Tryd.f34) Tryd.prog kp 1 (Y.cfT Tryd.prog cf) L 9 k (AA 9 (CM [.pointer (some ⟨mp,0,none⟩),.pointer (some ⟨lp,0,none⟩)])) m (Y.retF Tryd.prog Tryd.f34 q)=
 (cf 27 [.pointer (some ⟨mp,0,none⟩),.agg ⟨[.int .i64 7,.int .i64 0,.int .i64 0,.bool false,.bool false]⟩,.agg ⟨[.int .u8 0,.int .u8 0,.int .u8 0,.int .i16 0,.int .i32 0]⟩,.pointer (some ⟨lp,0,none⟩)] m (λB A=>q (.tuple ⟨[]⟩) A)):=by kernel_rfl
theorem j3(mp:Nat)(v:Int)(q:Value->Mem->Option α):Y.codeF (AN Tryd.f17) Tryd.prog kp 1 (Y.cfT Tryd.prog cf) L 14 k (AA 14 (CM [.pointer (some ⟨mp,0,none⟩),.int .u32 v])) m (Y.retF Tryd.prog Tryd.f17 q)=
 (cf 25 [.pointer (some ⟨mp,0,none⟩),.agg ⟨[.int .i64 1,.int .i64 11,.int .i64 0,.bool false,.bool false]⟩,.agg ⟨[.int .u8 0,.int .u8 0,.int .u8 0,.int .i16 0,.int .i32 (IntKind.wrap .i32 v)]⟩] m (λC A=>cf 25 [.pointer (some ⟨mp,0,none⟩),.agg ⟨[.int .i64 9,.int .i64 0,.int .i64 0,.bool false,.bool false]⟩,.agg ⟨[.int .u8 0,.int .u8 0,.int .u8 0,.int .i16 0,.int .i32 0]⟩] A (λD B=>q (.tuple ⟨[]⟩) B))):=by kernel_rfl
theorem YA(mp:Nat)(q:Value->Mem->Option α):Y.codeF (AN Tryd.f14) Tryd.prog kp 1 (Y.cfT Tryd.prog cf) L 8 k (AA 8 (CM [.pointer (some ⟨mp,0,none⟩)])) m (Y.retF Tryd.prog Tryd.f14 q)=
 (cf 26 [.pointer (some ⟨mp,0,none⟩),.int .i64 11,.int .u8 2,.int .i32 0] m (λD A=>cf 26 [.pointer (some ⟨mp,0,none⟩),.int .i64 11,.int .u8 3,.int .i32 0] A (λE B=>cf 13 [.pointer (some ⟨mp,0,none⟩),.int .i64 4,.int .u8 8,.int .u8 6,.int .i64 0] B (λF C=>q (.tuple ⟨[]⟩) C)))):=by kernel_rfl
theorem YC(mp lp:Nat)(op n:Int)(q:Value->Mem->Option α):Y.codeF (AN Tryd.f33) Tryd.prog kp 1 (Y.cfT Tryd.prog cf) L 25 k (AA 25 (CM [.pointer (some ⟨mp,0,none⟩),.int .i64 op,.int .u64 n,.pointer (some ⟨lp,0,none⟩)])) m (Y.retF Tryd.prog Tryd.f33 q)=
 (cf 31 [.int .u64 n] m (λC B=>Y.asBo C (λD=>cond D (cf 15 [.pointer (some ⟨mp,0,none⟩),.int .i64 op,.int .u8 2,.int .i32 (IntKind.wrap .i32 n),.pointer (some ⟨lp,0,none⟩)] B (λE A=>q (.tuple ⟨[]⟩) A)) (cf 32 [.pointer (some ⟨mp,0,none⟩),.int .u8 3,.int .u64 n] B (λE A=>cf 27 [.pointer (some ⟨mp,0,none⟩),.agg ⟨[.int .i64 6,.int .i64 op,.int .i64 0,.bool true,.bool true]⟩,.agg ⟨[.int .u8 0,.int .u8 2,.int .u8 3,.int .i16 0,.int .i32 0]⟩,.pointer (some ⟨lp,0,none⟩)] A (λG F=>q (.tuple ⟨[]⟩) F)))) none)):=by kernel_rfl
theorem j4(mp lp:Nat)(n:Int)(q:Value->Mem->Option α):Y.codeF (AN Tryd.f28) Tryd.prog kp 1 (Y.cfT Tryd.prog cf) L 20 k (AA 20 (CM [.pointer (some ⟨mp,0,none⟩),.int .i64 n,.pointer (some ⟨lp,0,none⟩)])) m (Y.retF Tryd.prog Tryd.f28 q)=
 (cf 15 [.pointer (some ⟨mp,0,none⟩),.int .i64 3,.int .u8 8,.int .i32 (IntKind.wrap .i32 n),.pointer (some ⟨Mem.size m,0,none⟩)] (Mem.push m (.cells true [.int .i64 0,.slice none 0 0])) (λE C=>cf 34 [.pointer (some ⟨mp,0,none⟩),.pointer (some ⟨lp,0,none⟩)] C (λF A=>cf 18 [.pointer (some ⟨mp,0,none⟩),.slice (some ⟨Mem.size A,0,none⟩) 1 1] (Mem.push A (.cells true [.pointer (some ⟨Mem.size m,0,none⟩)])) (λG B=>cf 19 [.pointer (some ⟨mp,0,none⟩),.slice (some ⟨Mem.size B,0,none⟩) 1 1] (Mem.push B (.cells true [.pointer (some ⟨Mem.size m,0,none⟩)])) (λH D=>q (.tuple ⟨[]⟩) D))))):=by kernel_rfl
theorem WA(mp sb nn:Nat)(q:Value->Mem->Option α):Y.codeF (AN Tryd.f18) Tryd.prog kp 1 (Y.cfT Tryd.prog cf) L 21 k (AA 21 (CM [.pointer (some ⟨mp,0,none⟩),.slice (some ⟨sb,0,none⟩) nn nn])) m (Y.retF Tryd.prog Tryd.f18 q)=
 (L (λt m q=>Y.codeF (Y.loopC (AN Tryd.f18) 0) Tryd.prog kp 1 (Y.cfT Tryd.prog cf) L 21 k t m q) (Y.loopC (AN Tryd.f18) 0) k (AA 21 (up (up Go.DI.x0 [(1,.slice (some ⟨sb,0,none⟩) nn nn)]) [(0,.pointer (some ⟨mp,0,none⟩)),(6,.slice (some ⟨sb,0,none⟩) nn nn),(7,.int .i64 (Int.ofNat nn)),(8,.int .i64 0)])) m (Y.kont Tryd.prog kp 1 (Y.cfT Tryd.prog cf) L 21 k (AN Tryd.f18) 0 (Y.retF Tryd.prog Tryd.f18 q))):=by kernel_rfl
theorem UQ(mp sb nn:Nat)(i:Int)(q:Y.ExK α):Y.codeF mM Tryd.prog kp 1 (Y.cfT Tryd.prog cf) L 21 k (AA 21 (up x [(0,.pointer (some ⟨mp,0,none⟩)),(6,.slice (some ⟨sb,0,none⟩) nn nn),(7,.int .i64 nn),(8,.int .i64 i)])) m q=
 (cond (Y.ltF i (Int.ofNat nn)) (Y.onNat i (λA=>cond (Nat.blt A nn) (Y.cellsOf (Mem.get m sb) (λ_ C=>Option.elim (Y.nthL C (Nat.add 0 (Nat.mul A 1))) none (λD=>Y.asPt D (λB=>L (Y.codeF (Y.loopC mM 0) Tryd.prog kp 1 (Y.cfT Tryd.prog cf) L 21 k) (Y.loopC mM 0) k (AA 21 (up (up x [(10,.pointer (some ⟨sb,Nat.add 0 (Nat.mul A 1),none⟩)),(9,.bool true),(11,.pointer B)]) [(0,.pointer (some ⟨mp,0,none⟩)),(5,.pointer B),(6,.slice (some ⟨sb,0,none⟩) nn nn),(7,.int .i64 (Int.ofNat nn)),(8,.int .i64 i)])) m (Y.kont Tryd.prog kp 1 (Y.cfT Tryd.prog cf) L 21 k mM 0 q)) none))) none)) (q (Ex.exit 0) (AA 21 (up (up x [(9,.bool false)]) [(0,.pointer (some ⟨mp,0,none⟩)),(5,x 5),(6,.slice (some ⟨sb,0,none⟩) nn nn),(7,.int .i64 (Int.ofNat nn)),(8,.int .i64 i)])) m)):=by kernel_rfl
theorem dH(mp lp sb nn:Nat)(i:Int)(q:AE->Mem->Option α):Y.opsF (List.take 8 mL) Tryd.prog kp 1 (Y.cfT Tryd.prog cf) 21 mL (AA 21 (up x [(0,.pointer (some ⟨mp,0,none⟩)),(5,.pointer (some ⟨lp,0,none⟩)),(6,.slice (some ⟨sb,0,none⟩) nn nn),(7,.int .i64 nn),(8,.int .i64 i)])) m q=
 (Y.cellsOf (Mem.get m mp) (λ_ B=>Option.elim (Y.nthL B 0) none (λC=>Y.asSl C (λD A E=>q (AA 21 (up (up x [(16,.slice D A E),(12,.pointer (some ⟨lp,0,none⟩)),(18,.pointer (some ⟨lp,0,none⟩)),(14,.pointer (some ⟨mp,0,none⟩)),(13,.pointer (some ⟨mp,0,none⟩)),(15,.pointer (some ⟨mp,0,none⟩))]) [(0,.pointer (some ⟨mp,0,none⟩)),(5,.pointer (some ⟨lp,0,none⟩)),(6,.slice (some ⟨sb,0,none⟩) nn nn),(7,.int .i64 (Int.ofNat nn)),(8,.int .i64 i),(17,.int .i64 (Int.ofNat A)),(19,.pointer (some ⟨lp,0,none⟩))])) m) none))):=by kernel_rfl
theorem dI(mp sb nn:Nat)(i:Int)(q:Y.ExK α):Y.kont Tryd.prog kp 1 (Y.cfT Tryd.prog cf) L 21 k mM 0 q .normal (AA 21 (up x [(0,.pointer (some ⟨mp,0,none⟩)),(6,.slice (some ⟨sb,0,none⟩) nn nn),(7,.int .i64 nn),(8,.int .i64 i)])) m=
 (q .normal (AA 21 (up (up x [(20,.int .i64 (IntKind.wrap .i64 (Int.add i 1)))]) [(0,.pointer (some ⟨mp,0,none⟩)),(6,.slice (some ⟨sb,0,none⟩) nn nn),(7,.int .i64 (Int.ofNat nn)),(8,.int .i64 (IntKind.wrap .i64 (Int.add i 1)))])) m):=by kernel_rfl
theorem SK(mp sb nn:Nat)(i:Int)(q:Value->Mem->Option α):Y.kont Tryd.prog kp 1 (Y.cfT Tryd.prog cf) L 21 k (AN Tryd.f18) 0 (Y.retF Tryd.prog Tryd.f18 q) (.exit 0) (AA 21 (up x [(0,.pointer (some ⟨mp,0,none⟩)),(6,.slice (some ⟨sb,0,none⟩) nn nn),(7,.int .i64 nn),(8,.int .i64 i)])) m=
 (q (.tuple ⟨[]⟩) m):=by kernel_rfl
theorem YG(mp sb nn:Nat)(q:Value->Mem->Option α):Y.codeF (AN Tryd.f19) Tryd.prog kp 1 (Y.cfT Tryd.prog cf) L 40 k (AA 40 (CM [.pointer (some ⟨mp,0,none⟩),.slice (some ⟨sb,0,none⟩) nn nn])) m (Y.retF Tryd.prog Tryd.f19 q)=
 (L (λt m q=>Y.codeF (Y.loopC (AN Tryd.f19) 0) Tryd.prog kp 1 (Y.cfT Tryd.prog cf) L 40 k t m q) (Y.loopC (AN Tryd.f19) 0) k (AA 40 (up (up Go.DI.x0 [(1,.slice (some ⟨sb,0,none⟩) nn nn)]) [(0,.pointer (some ⟨mp,0,none⟩)),(8,.slice (some ⟨sb,0,none⟩) nn nn),(9,.int .i64 (Int.ofNat nn)),(10,.int .i64 0)])) m (Y.kont Tryd.prog kp 1 (Y.cfT Tryd.prog cf) L 40 k (AN Tryd.f19) 0 (Y.retF Tryd.prog Tryd.f19 q))):=by kernel_rfl
theorem YF(mp sb nn:Nat)(i:Int)(q:Y.ExK α):Y.codeF YD Tryd.prog kp 1 (Y.cfT Tryd.prog cf) L 40 k (AA 40 (up x [(0,.pointer (some ⟨mp,0,none⟩)),(8,.slice (some ⟨sb,0,none⟩) nn nn),(9,.int .i64 nn),(10,.int .i64 i)])) m q=
 (cond (Y.ltF i (Int.ofNat nn)) (Y.onNat i (λA=>cond (Nat.blt A nn) (Y.cellsOf (Mem.get m sb) (λ_ C=>Option.elim (Y.nthL C (Nat.add 0 (Nat.mul A 1))) none (λD=>Y.asPt D (λB=>L (Y.codeF (Y.loopC YD 0) Tryd.prog kp 1 (Y.cfT Tryd.prog cf) L 40 k) (Y.loopC YD 0) k (AA 40 (up (up x [(12,.pointer (some ⟨sb,Nat.add 0 (Nat.mul A 1),none⟩)),(13,.pointer B),(11,.bool true)]) [(0,.pointer (some ⟨mp,0,none⟩)),(5,.pointer B),(8,.slice (some ⟨sb,0,none⟩) nn nn),(9,.int .i64 (Int.ofNat nn)),(10,.int .i64 i)])) m (Y.kont Tryd.prog kp 1 (Y.cfT Tryd.prog cf) L 40 k YD 0 q)) none))) none)) (q (Ex.exit 0) (AA 40 (up (up x [(11,.bool false)]) [(0,.pointer (some ⟨mp,0,none⟩)),(5,x 5),(8,.slice (some ⟨sb,0,none⟩) nn nn),(9,.int .i64 (Int.ofNat nn)),(10,.int .i64 i)])) m)):=by kernel_rfl
theorem jc(mp lp sb nn:Nat)(i:Int)(q:AE->Mem->Option α):Y.opsF (pM) Tryd.prog kp 1 (Y.cfT Tryd.prog cf) 40 pM (AA 40 (up x [(0,.pointer (some ⟨mp,0,none⟩)),(5,.pointer (some ⟨lp,0,none⟩)),(8,.slice (some ⟨sb,0,none⟩) nn nn),(9,.int .i64 nn),(10,.int .i64 i)])) m q=
 (Y.cellsOf (Mem.get m lp) (λ_ B=>Option.elim (Y.nthL B 1) none (λC=>Y.asSl C (λD A E=>q (AA 40 (up (up x [(16,.pointer (some ⟨lp,1,none⟩)),(14,.pointer (some ⟨lp,0,none⟩)),(15,.pointer (some ⟨lp,0,none⟩))]) [(0,.pointer (some ⟨mp,0,none⟩)),(5,.pointer (some ⟨lp,0,none⟩)),(8,.slice (some ⟨sb,0,none⟩) nn nn),(9,.int .i64 (Int.ofNat nn)),(10,.int .i64 i),(17,.slice D A E),(18,.int .i64 (Int.ofNat A)),(19,.int .i64 0)])) m) none))):=by kernel_rfl
theorem jd(mp lp sb nn jn:Nat)(ja:Option Addr)(i j:Int)(q:Y.ExK α):Y.kont Tryd.prog kp 1 (Y.cfT Tryd.prog cf) L 40 k YD 0 q .normal (AA 40 (up x [(0,.pointer (some ⟨mp,0,none⟩)),(5,.pointer (some ⟨lp,0,none⟩)),(8,.slice (some ⟨sb,0,none⟩) nn nn),(9,.int .i64 nn),(10,.int .i64 i),(17,.slice ja jn jn),(18,.int .i64 jn),(19,.int .i64 j)])) m=
 (L (Y.codeF (Y.loopC YD 1) Tryd.prog kp 1 (Y.cfT Tryd.prog cf) L 40 k) (Y.loopC YD 1) k (AA 40 (up x [(0,.pointer (some ⟨mp,0,none⟩)),(5,.pointer (some ⟨lp,0,none⟩)),(8,.slice (some ⟨sb,0,none⟩) nn nn),(9,.int .i64 (Int.ofNat nn)),(10,.int .i64 i),(17,.slice ja jn jn),(18,.int .i64 (Int.ofNat jn)),(19,.int .i64 j)])) m (Y.kont Tryd.prog kp 1 (Y.cfT Tryd.prog cf) L 40 k YD 1 q)):=by kernel_rfl
theorem je(mp lp sb nn jn:Nat)(ja:Option Addr)(i j:Int)(q:Y.ExK α):Y.kont Tryd.prog kp 1 (Y.cfT Tryd.prog cf) L 40 k YD 1 q (.exit 2) (AA 40 (up x [(0,.pointer (some ⟨mp,0,none⟩)),(5,.pointer (some ⟨lp,0,none⟩)),(8,.slice (some ⟨sb,0,none⟩) nn nn),(9,.int .i64 nn),(10,.int .i64 i),(17,.slice ja jn jn),(18,.int .i64 jn),(19,.int .i64 j)])) m=
 (q .normal (AA 40 (up (up x [(18,.int .i64 (Int.ofNat jn)),(17,.slice ja jn jn),(5,.pointer (some ⟨lp,0,none⟩)),(19,.int .i64 j),(39,.int .i64 (IntKind.wrap .i64 (Int.add i 1)))]) [(0,.pointer (some ⟨mp,0,none⟩)),(8,.slice (some ⟨sb,0,none⟩) nn nn),(9,.int .i64 (Int.ofNat nn)),(10,.int .i64 (IntKind.wrap .i64 (Int.add i 1)))])) m):=by kernel_rfl
theorem WD(mp sb nn:Nat)(i:Int)(q:Value->Mem->Option α):Y.kont Tryd.prog kp 1 (Y.cfT Tryd.prog cf) L 40 k (AN Tryd.f19) 0 (Y.retF Tryd.prog Tryd.f19 q) (.exit 0) (AA 40 (up x [(0,.pointer (some ⟨mp,0,none⟩)),(8,.slice (some ⟨sb,0,none⟩) nn nn),(9,.int .i64 nn),(10,.int .i64 i)])) m=
 (q (.tuple ⟨[]⟩) m):=by kernel_rfl
theorem YE(mp lp sb nn jb jn:Nat)(i j:Int)(q:Y.ExK α):Y.codeF QG Tryd.prog kp 1 (Y.cfT Tryd.prog cf) L 40 k (AA 40 (up x [(0,.pointer (some ⟨mp,0,none⟩)),(5,.pointer (some ⟨lp,0,none⟩)),(8,.slice (some ⟨sb,0,none⟩) nn nn),(9,.int .i64 nn),(10,.int .i64 i),(17,.slice (some ⟨jb,0,some 1⟩) jn jn),(18,.int .i64 jn),(19,.int .i64 j)])) m q=
 (cond (Y.ltF j (Int.ofNat jn)) (Y.onNat j (λA=>cond (Nat.blt A jn) (Y.cellsOf (Mem.get m jb) (λ_ C=>Option.elim (Y.nthL C (Nat.add 0 (Nat.mul A 1))) none (λD=>Y.asInt D (λE B=>cond (Y.kEq .i64 E) (L (Y.codeF (Y.loopC QG 0) Tryd.prog kp 1 (Y.cfT Tryd.prog cf) L 40 k) (Y.loopC QG 0) k (AA 40 (up (up x [(20,.bool true),(22,.int .i64 B),(21,.pointer (some ⟨jb,Nat.add 0 (Nat.mul A 1),none⟩))]) [(0,.pointer (some ⟨mp,0,none⟩)),(5,.pointer (some ⟨lp,0,none⟩)),(7,.int .i64 B),(8,.slice (some ⟨sb,0,none⟩) nn nn),(9,.int .i64 (Int.ofNat nn)),(10,.int .i64 i),(17,.slice (some (Addr.mk jb 0 (some 1))) jn jn),(18,.int .i64 (Int.ofNat jn)),(19,.int .i64 j)])) m (Y.kont Tryd.prog kp 1 (Y.cfT Tryd.prog cf) L 40 k QG 0 q)) none) none))) none)) (q (Ex.exit 2) (AA 40 (up (up x [(20,.bool false)]) [(0,.pointer (some ⟨mp,0,none⟩)),(5,.pointer (some ⟨lp,0,none⟩)),(7,x 7),(8,.slice (some ⟨sb,0,none⟩) nn nn),(9,.int .i64 (Int.ofNat nn)),(10,.int .i64 i),(17,.slice (some (Addr.mk jb 0 (some 1))) jn jn),(18,.int .i64 (Int.ofNat jn)),(19,.int .i64 j)])) m)):=by kernel_rfl
theorem j8(mp lp sb nn jb jn:Nat)(i j:Int)(q:Y.ExK α):Y.kont Tryd.prog kp 1 (Y.cfT Tryd.prog cf) L 40 k QG 0 q .normal (AA 40 (up x [(0,.pointer (some ⟨mp,0,none⟩)),(5,.pointer (some ⟨lp,0,none⟩)),(8,.slice (some ⟨sb,0,none⟩) nn nn),(9,.int .i64 nn),(10,.int .i64 i),(17,.slice (some ⟨jb,0,some 1⟩) jn jn),(18,.int .i64 jn),(19,.int .i64 j)])) m=
 (q .normal (AA 40 (up (up x [(38,.int .i64 (IntKind.wrap .i64 (Int.add j 1)))]) [(0,.pointer (some ⟨mp,0,none⟩)),(5,.pointer (some ⟨lp,0,none⟩)),(8,.slice (some ⟨sb,0,none⟩) nn nn),(9,.int .i64 (Int.ofNat nn)),(10,.int .i64 i),(17,.slice (some (Addr.mk jb 0 (some 1))) jn jn),(18,.int .i64 (Int.ofNat jn)),(19,.int .i64 (IntKind.wrap .i64 (Int.add j 1)))])) m):=by kernel_rfl
theorem Vw(mp lp:Nat)(g:Bool)(ki p s ma lo hi:Int)(q:Value->Mem->Option α):Y.codeF (AN Tryd.f29) Tryd.prog kp 1 (Y.cfT Tryd.prog cf) L 62 k (AA 62 (CM [.pointer (some ⟨mp,0,none⟩),.agg ⟨[.bool g,.int .i64 ki,.int .i64 p,.int .i64 s,.int .u64 ma,.int .u64 lo,.int .u64 hi]⟩,.pointer (some ⟨lp,0,none⟩)])) m (Y.retF Tryd.prog Tryd.f29 q)=
 (cf 28 [.pointer (some ⟨mp,0,none⟩),.int .i64 15,.pointer (some ⟨lp,0,none⟩)] (Mem.push m (.cells true [.bool g,.int .i64 ki,.int .i64 p,.int .i64 s,.int .u64 ma,.int .u64 lo,.int .u64 hi])) (λB C=>cf 13 [.pointer (some ⟨mp,0,none⟩),.int .i64 1,.int .u8 2,.int .u8 7,.int .i64 14] C (λD E=>cf 26 [.pointer (some ⟨mp,0,none⟩),.int .i64 5,.int .u8 2,.int .i32 15] E (λF A=>L (λt m q=>Y.codeF (Y.loopC (AN Tryd.f29) 0) Tryd.prog kp 1 (Y.cfT Tryd.prog cf) L 62 k t m q) (Y.loopC (AN Tryd.f29) 0) k (AA 62 (up (up Go.DI.x0 [(16,.pointer (some ⟨mp,0,none⟩)),(12,.pointer (some ⟨lp,0,none⟩)),(14,.pointer (some ⟨mp,0,none⟩)),(1,.agg ⟨[.bool g,.int .i64 ki,.int .i64 p,.int .i64 s,.int .u64 ma,.int .u64 lo,.int .u64 hi]⟩),(17,F),(13,B),(11,.pointer (some ⟨mp,0,none⟩)),(15,D)]) [(0,.pointer (some ⟨mp,0,none⟩)),(2,.pointer (some ⟨lp,0,none⟩)),(4,.pointer (some ⟨Mem.size m,0,none⟩)),(6,.pointer (some ⟨Mem.size A,0,none⟩)),(18,.int .i64 0)])) (Mem.push A (.cells true [.int .i64 0,.slice none 0 0])) (Y.kont Tryd.prog kp 1 (Y.cfT Tryd.prog cf) L 62 k (AN Tryd.f29) 0 (Y.retF Tryd.prog Tryd.f29 q)))))):=by kernel_rfl
theorem SG(mp lp tb dl:Nat)(i:Int)(q:Y.ExK α):Y.codeF (BW Tryd.f29 0) Tryd.prog kp 1 (Y.cfT Tryd.prog cf) L 62 k (AA 62 (up x [(0,.pointer (some ⟨mp,0,none⟩)),(2,.pointer (some ⟨lp,0,none⟩)),(4,.pointer (some ⟨tb,0,none⟩)),(6,.pointer (some ⟨dl,0,none⟩)),(18,.int .i64 i)])) m q=
 (cond (Y.ltF i 16) (cond (Y.eqF i 15) (cf 15 [.pointer (some ⟨mp,0,none⟩),.int .i64 5,.int .u8 2,.int .i32 (IntKind.wrap .i32 i),.pointer (some ⟨lp,0,none⟩)] (Mem.push m (.cells true [.int .i64 0,.slice none 0 0])) (λH B=>Y.cellsOf (Mem.get B tb) (λ_ I=>Option.elim (Y.nthL I 2) none (λJ=>Y.asInt J (λN A=>cond (Y.kEq .i64 N) (Y.cellsOf (Mem.get B tb) (λ_ O=>Option.elim (Y.nthL O 3) none (λQ=>Y.asInt Q (λR C=>cond (Y.kEq .i64 R) (cf 28 [.pointer (some ⟨mp,0,none⟩),.int .i64 (IntKind.wrap .i64 (Int.add (IntKind.wrap .i64 (Int.add (IntKind.wrap .i64 (Int.add 14 (IntKind.wrap .i64 (Int.mul 4 i)))) A)) C)),.pointer (some ⟨lp,0,none⟩)] B (λS F=>Y.cellsOf (Mem.get F tb) (λ_ T=>Option.elim (Y.nthL T 3) none (λU=>Y.asInt U (λV G=>cond (Y.kEq .i64 V) (cf 13 [.pointer (some ⟨mp,0,none⟩),.int .i64 G,.int .u8 2,.int .u8 7,.int .i64 (IntKind.wrap .i64 (Int.add (IntKind.wrap .i64 (Int.add 14 (IntKind.wrap .i64 (Int.mul 4 i)))) A))] F (λW X=>cf 34 [.pointer (some ⟨mp,0,none⟩),.pointer (some ⟨dl,0,none⟩)] X (λZ D=>cf 18 [.pointer (some ⟨mp,0,none⟩),.slice (some ⟨Mem.size D,0,none⟩) 1 1] (Mem.push D (.cells true [.pointer (some ⟨Mem.size m,0,none⟩)])) (λAa E=>cf 19 [.pointer (some ⟨mp,0,none⟩),.slice (some ⟨Mem.size E,0,none⟩) 1 1] (Mem.push E (.cells true [.pointer (some ⟨Mem.size m,0,none⟩)])) (λAb Ac=>q .normal (AA 62 (up (up x [(32,.pointer (some ⟨tb,2,none⟩)),(48,Z),(8,.pointer (some ⟨Mem.size m,0,none⟩)),(40,.pointer (some ⟨lp,0,none⟩)),(24,.pointer (some ⟨mp,0,none⟩)),(36,.int .i64 (IntKind.wrap .i64 (Int.add (IntKind.wrap .i64 (Int.add 14 (IntKind.wrap .i64 (Int.mul 4 i)))) A))),(20,.int .i64 i),(52,.pointer (some ⟨mp,0,none⟩)),(44,.int .i64 G),(28,H),(34,.int .i64 (IntKind.wrap .i64 (Int.add (IntKind.wrap .i64 (Int.add 14 (IntKind.wrap .i64 (Int.mul 4 i)))) A))),(50,.slice (some ⟨Mem.size D,0,none⟩) 1 1),(10,.int .i64 (IntKind.wrap .i64 (Int.add (IntKind.wrap .i64 (Int.add 14 (IntKind.wrap .i64 (Int.mul 4 i)))) A))),(42,.pointer (some ⟨mp,0,none⟩)),(26,.int .i32 (IntKind.wrap .i32 i)),(38,.int .i64 C),(22,.bool true),(54,Ab),(46,W),(30,.int .i64 (IntKind.wrap .i64 (Int.mul 4 i))),(33,.int .i64 A),(49,.pointer (some ⟨mp,0,none⟩)),(9,.pointer (some ⟨lp,0,none⟩)),(41,S),(25,.int .i64 i),(37,.pointer (some ⟨tb,3,none⟩)),(21,.int .i64 i),(53,.slice (some ⟨Mem.size E,0,none⟩) 1 1),(45,.int .i64 (IntKind.wrap .i64 (Int.add (IntKind.wrap .i64 (Int.add 14 (IntKind.wrap .i64 (Int.mul 4 i)))) A))),(29,.int .i64 i),(35,.pointer (some ⟨mp,0,none⟩)),(19,.bool true),(51,Aa),(43,.pointer (some ⟨tb,3,none⟩)),(27,.pointer (some ⟨lp,0,none⟩)),(7,.int .i64 i),(39,.int .i64 (IntKind.wrap .i64 (Int.add (IntKind.wrap .i64 (Int.add (IntKind.wrap .i64 (Int.add 14 (IntKind.wrap .i64 (Int.mul 4 i)))) A)) C))),(23,.pointer (some ⟨lp,0,none⟩)),(55,.int .i64 (IntKind.wrap .i64 (Int.add i 1))),(47,.pointer (some ⟨mp,0,none⟩)),(31,.int .i64 (IntKind.wrap .i64 (Int.add 14 (IntKind.wrap .i64 (Int.mul 4 i)))))]) [(0,.pointer (some ⟨mp,0,none⟩)),(2,.pointer (some ⟨lp,0,none⟩)),(4,.pointer (some ⟨tb,0,none⟩)),(6,.pointer (some ⟨dl,0,none⟩)),(18,.int .i64 (IntKind.wrap .i64 (Int.add i 1)))])) Ac))))) none) none)))) none) none))) none) none)))) (cf 15 [.pointer (some ⟨mp,0,none⟩),.int .i64 5,.int .u8 2,.int .i32 (IntKind.wrap .i32 i),.pointer (some ⟨Mem.size m,0,none⟩)] (Mem.push m (.cells true [.int .i64 0,.slice none 0 0])) (λH B=>Y.cellsOf (Mem.get B tb) (λ_ I=>Option.elim (Y.nthL I 2) none (λJ=>Y.asInt J (λN A=>cond (Y.kEq .i64 N) (Y.cellsOf (Mem.get B tb) (λ_ O=>Option.elim (Y.nthL O 3) none (λQ=>Y.asInt Q (λR C=>cond (Y.kEq .i64 R) (cf 28 [.pointer (some ⟨mp,0,none⟩),.int .i64 (IntKind.wrap .i64 (Int.add (IntKind.wrap .i64 (Int.add (IntKind.wrap .i64 (Int.add 14 (IntKind.wrap .i64 (Int.mul 4 i)))) A)) C)),.pointer (some ⟨lp,0,none⟩)] B (λS F=>Y.cellsOf (Mem.get F tb) (λ_ T=>Option.elim (Y.nthL T 3) none (λU=>Y.asInt U (λV G=>cond (Y.kEq .i64 V) (cf 13 [.pointer (some ⟨mp,0,none⟩),.int .i64 G,.int .u8 2,.int .u8 7,.int .i64 (IntKind.wrap .i64 (Int.add (IntKind.wrap .i64 (Int.add 14 (IntKind.wrap .i64 (Int.mul 4 i)))) A))] F (λW X=>cf 34 [.pointer (some ⟨mp,0,none⟩),.pointer (some ⟨dl,0,none⟩)] X (λZ D=>cf 18 [.pointer (some ⟨mp,0,none⟩),.slice (some ⟨Mem.size D,0,none⟩) 1 1] (Mem.push D (.cells true [.pointer (some ⟨Mem.size m,0,none⟩)])) (λAa E=>cf 19 [.pointer (some ⟨mp,0,none⟩),.slice (some ⟨Mem.size E,0,none⟩) 1 1] (Mem.push E (.cells true [.pointer (some ⟨Mem.size m,0,none⟩)])) (λAb Ac=>q .normal (AA 62 (up (up x [(32,.pointer (some ⟨tb,2,none⟩)),(48,Z),(8,.pointer (some ⟨Mem.size m,0,none⟩)),(40,.pointer (some ⟨lp,0,none⟩)),(24,.pointer (some ⟨mp,0,none⟩)),(36,.int .i64 (IntKind.wrap .i64 (Int.add (IntKind.wrap .i64 (Int.add 14 (IntKind.wrap .i64 (Int.mul 4 i)))) A))),(20,.int .i64 i),(52,.pointer (some ⟨mp,0,none⟩)),(44,.int .i64 G),(28,H),(34,.int .i64 (IntKind.wrap .i64 (Int.add (IntKind.wrap .i64 (Int.add 14 (IntKind.wrap .i64 (Int.mul 4 i)))) A))),(50,.slice (some ⟨Mem.size D,0,none⟩) 1 1),(10,.int .i64 (IntKind.wrap .i64 (Int.add (IntKind.wrap .i64 (Int.add 14 (IntKind.wrap .i64 (Int.mul 4 i)))) A))),(42,.pointer (some ⟨mp,0,none⟩)),(26,.int .i32 (IntKind.wrap .i32 i)),(38,.int .i64 C),(22,.bool false),(54,Ab),(46,W),(30,.int .i64 (IntKind.wrap .i64 (Int.mul 4 i))),(33,.int .i64 A),(49,.pointer (some ⟨mp,0,none⟩)),(9,.pointer (some ⟨Mem.size m,0,none⟩)),(41,S),(25,.int .i64 i),(37,.pointer (some ⟨tb,3,none⟩)),(21,.int .i64 i),(53,.slice (some ⟨Mem.size E,0,none⟩) 1 1),(45,.int .i64 (IntKind.wrap .i64 (Int.add (IntKind.wrap .i64 (Int.add 14 (IntKind.wrap .i64 (Int.mul 4 i)))) A))),(29,.int .i64 i),(35,.pointer (some ⟨mp,0,none⟩)),(19,.bool true),(51,Aa),(43,.pointer (some ⟨tb,3,none⟩)),(27,.pointer (some ⟨Mem.size m,0,none⟩)),(7,.int .i64 i),(39,.int .i64 (IntKind.wrap .i64 (Int.add (IntKind.wrap .i64 (Int.add (IntKind.wrap .i64 (Int.add 14 (IntKind.wrap .i64 (Int.mul 4 i)))) A)) C))),(55,.int .i64 (IntKind.wrap .i64 (Int.add i 1))),(47,.pointer (some ⟨mp,0,none⟩)),(31,.int .i64 (IntKind.wrap .i64 (Int.add 14 (IntKind.wrap .i64 (Int.mul 4 i)))))]) [(0,.pointer (some ⟨mp,0,none⟩)),(2,.pointer (some ⟨lp,0,none⟩)),(4,.pointer (some ⟨tb,0,none⟩)),(6,.pointer (some ⟨dl,0,none⟩)),(18,.int .i64 (IntKind.wrap .i64 (Int.add i 1)))])) Ac))))) none) none)))) none) none))) none) none))))) (q (Ex.exit 0) (AA 62 (up (up x [(19,.bool false)]) [(0,.pointer (some ⟨mp,0,none⟩)),(2,.pointer (some ⟨lp,0,none⟩)),(4,.pointer (some ⟨tb,0,none⟩)),(6,.pointer (some ⟨dl,0,none⟩)),(18,.int .i64 i)])) m)):=by kernel_rfl
theorem SH(mp lp tb dl:Nat)(i:Int)(q:Value->Mem->Option α):Y.kont Tryd.prog kp 1 (Y.cfT Tryd.prog cf) L 62 k (AN Tryd.f29) 0 (Y.retF Tryd.prog Tryd.f29 q) (.exit 0) (AA 62 (up x [(0,.pointer (some ⟨mp,0,none⟩)),(2,.pointer (some ⟨lp,0,none⟩)),(4,.pointer (some ⟨tb,0,none⟩)),(6,.pointer (some ⟨dl,0,none⟩)),(18,.int .i64 i)])) m=
 (cf 18 [.pointer (some ⟨mp,0,none⟩),.slice (some ⟨Mem.size m,0,none⟩) 1 1] (Mem.push m (.cells true [.pointer (some ⟨dl,0,none⟩)])) (λC A=>cf 19 [.pointer (some ⟨mp,0,none⟩),.slice (some ⟨Mem.size A,0,none⟩) 1 1] (Mem.push A (.cells true [.pointer (some ⟨dl,0,none⟩)])) (λD B=>q (.tuple ⟨[]⟩) B))):=by kernel_rfl
theorem PA(mp lp:Nat)(g:Bool)(ki p s ma lo hi:Int)(q:Value->Mem->Option α):Y.codeF E1 Tryd.prog kp 1 (Y.cfT Tryd.prog cf) L 133 k (AA 133 (CM [.pointer (some ⟨mp,0,none⟩),.agg ⟨[.bool g,.int .i64 ki,.int .i64 p,.int .i64 s,.int .u64 ma,.int .u64 lo,.int .u64 hi]⟩,.pointer (some ⟨lp,0,none⟩)])) m (Y.retF Tryd.prog Tryd.f16 q)=
 (cf 14 [.pointer (some ⟨mp,0,none⟩)] (Mem.push (Mem.push m (.cells true [.bool g,.int .i64 ki,.int .i64 p,.int .i64 s,.int .u64 ma,.int .u64 lo,.int .u64 hi])) (.cells true [.int .i64 0,.slice none 0 0])) (λD A=>Y.cellsOf (Mem.get A (Mem.size m)) (λ_ O=>Option.elim (Y.nthL O 1) none (λQ=>Y.asInt Q (λR B=>cond (Y.kEq .i64 R) (cond (Y.eqF B 1) (cf 12 [.pointer (some ⟨mp,0,none⟩),.int .i64 11,.int .u8 2,.int .u8 8] A (λE F=>L (Y.codeF (Y.loopC E1 0) Tryd.prog kp 1 (Y.cfT Tryd.prog cf) L 133 k) (Y.loopC E1 0) k (AA 133 (up (up Go.DI.x0 [(16,.bool true),(12,.int .i64 B),(18,.pointer (some ⟨mp,0,none⟩)),(10,D),(1,.agg ⟨[.bool g,.int .i64 ki,.int .i64 p,.int .i64 s,.int .u64 ma,.int .u64 lo,.int .u64 hi]⟩),(17,.bool true),(9,.pointer (some ⟨mp,0,none⟩)),(19,E),(11,.pointer (some ⟨Mem.size m,1,none⟩))]) [(0,.pointer (some ⟨mp,0,none⟩)),(2,.pointer (some ⟨lp,0,none⟩)),(4,.pointer (some ⟨Mem.size m,0,none⟩)),(6,.pointer (some ⟨Nat.succ (Mem.size m),0,none⟩)),(7,.int .u64 0)])) F (Y.kont Tryd.prog kp 1 (Y.cfT Tryd.prog cf) L 133 k E1 0 (Y.retF Tryd.prog Tryd.f16 q)))) (cond (Y.eqF B 2) (cf 13 [.pointer (some ⟨mp,0,none⟩),.int .i64 4,.int .u8 2,.int .u8 6,.int .i64 4] A (λE F=>L (Y.codeF (Y.loopC E1 0) Tryd.prog kp 1 (Y.cfT Tryd.prog cf) L 133 k) (Y.loopC E1 0) k (AA 133 (up (up Go.DI.x0 [(16,.bool false),(20,.bool true),(12,.int .i64 B),(10,D),(22,.pointer (some ⟨mp,0,none⟩)),(1,.agg ⟨[.bool g,.int .i64 ki,.int .i64 p,.int .i64 s,.int .u64 ma,.int .u64 lo,.int .u64 hi]⟩),(17,.bool false),(9,.pointer (some ⟨mp,0,none⟩)),(21,.bool true),(11,.pointer (some ⟨Mem.size m,1,none⟩)),(23,E)]) [(0,.pointer (some ⟨mp,0,none⟩)),(2,.pointer (some ⟨lp,0,none⟩)),(4,.pointer (some ⟨Mem.size m,0,none⟩)),(6,.pointer (some ⟨Nat.succ (Mem.size m),0,none⟩)),(7,.int .u64 0)])) F (Y.kont Tryd.prog kp 1 (Y.cfT Tryd.prog cf) L 133 k E1 0 (Y.retF Tryd.prog Tryd.f16 q)))) (cond (Y.eqF B 3) (Y.cellsOf (Mem.get A (Mem.size m)) (λ_ C=>Option.elim (Y.nthL C 2) none (λS=>Y.asInt S (λT G=>cond (Y.kEq .i64 T) (Y.cellsOf (Mem.get A (Mem.size m)) (λ_ U=>Option.elim (Y.nthL U 3) none (λV=>Y.asInt V (λW H=>cond (Y.kEq .i64 W) (cf 28 [.pointer (some ⟨mp,0,none⟩),.int .i64 (IntKind.wrap .i64 (Int.add G H)),.pointer (some ⟨Nat.succ (Mem.size m),0,none⟩)] A (λX I=>Y.cellsOf (Mem.get I (Mem.size m)) (λ_ Z=>Option.elim (Y.nthL Z 3) none (λAa=>Y.asInt Aa (λAb J=>cond (Y.kEq .i64 Ab) (Y.cellsOf (Mem.get I (Mem.size m)) (λ_ Ac=>Option.elim (Y.nthL Ac 2) none (λAd=>Y.asInt Ad (λAe N=>cond (Y.kEq .i64 Ae) (cf 13 [.pointer (some ⟨mp,0,none⟩),.int .i64 J,.int .u8 2,.int .u8 7,.int .i64 N] I (λAf Ag=>L (Y.codeF (Y.loopC E1 0) Tryd.prog kp 1 (Y.cfT Tryd.prog cf) L 133 k) (Y.loopC E1 0) k (AA 133 (up (up Go.DI.x0 [(32,X),(16,.bool false),(24,.bool true),(36,.pointer (some ⟨Mem.size m,2,none⟩)),(20,.bool false),(12,.int .i64 B),(28,.int .i64 G),(34,.pointer (some ⟨Mem.size m,3,none⟩)),(10,D),(26,.pointer (some ⟨mp,0,none⟩)),(38,Af),(30,.int .i64 H),(1,.agg ⟨[.bool g,.int .i64 ki,.int .i64 p,.int .i64 s,.int .u64 ma,.int .u64 lo,.int .u64 hi]⟩),(33,.pointer (some ⟨mp,0,none⟩)),(17,.bool false),(9,.pointer (some ⟨mp,0,none⟩)),(25,.bool true),(37,.int .i64 N),(21,.bool false),(29,.pointer (some ⟨Mem.size m,3,none⟩)),(35,.int .i64 J),(11,.pointer (some ⟨Mem.size m,1,none⟩)),(27,.pointer (some ⟨Mem.size m,2,none⟩)),(31,.int .i64 (IntKind.wrap .i64 (Int.add G H)))]) [(0,.pointer (some ⟨mp,0,none⟩)),(2,.pointer (some ⟨lp,0,none⟩)),(4,.pointer (some ⟨Mem.size m,0,none⟩)),(6,.pointer (some ⟨Nat.succ (Mem.size m),0,none⟩)),(7,.int .u64 0)])) Ag (Y.kont Tryd.prog kp 1 (Y.cfT Tryd.prog cf) L 133 k E1 0 (Y.retF Tryd.prog Tryd.f16 q)))) none) none))) none) none)))) none) none))) none) none))) (Y.cellsOf (Mem.get A (Mem.size m)) (λ_ C=>cond (Nat.ble 7 (Y.lenLF C)) (cf 29 [.pointer (some ⟨mp,0,none⟩),.agg ⟨Y.subL C 0 7⟩,.pointer (some ⟨Nat.succ (Mem.size m),0,none⟩)] A (λAh Ai=>L (Y.codeF (Y.loopC E1 0) Tryd.prog kp 1 (Y.cfT Tryd.prog cf) L 133 k) (Y.loopC E1 0) k (AA 133 (up (up Go.DI.x0 [(16,.bool false),(24,.bool false),(20,.bool false),(12,.int .i64 B),(10,D),(14,.agg ⟨Y.subL C 0 7⟩),(1,.agg ⟨[.bool g,.int .i64 ki,.int .i64 p,.int .i64 s,.int .u64 ma,.int .u64 lo,.int .u64 hi]⟩),(17,.bool false),(9,.pointer (some ⟨mp,0,none⟩)),(25,.bool false),(21,.bool false),(13,.pointer (some ⟨mp,0,none⟩)),(11,.pointer (some ⟨Mem.size m,1,none⟩)),(15,Ah)]) [(0,.pointer (some ⟨mp,0,none⟩)),(2,.pointer (some ⟨lp,0,none⟩)),(4,.pointer (some ⟨Mem.size m,0,none⟩)),(6,.pointer (some ⟨Nat.succ (Mem.size m),0,none⟩)),(7,.int .u64 0)])) Ai (Y.kont Tryd.prog kp 1 (Y.cfT Tryd.prog cf) L 133 k E1 0 (Y.retF Tryd.prog Tryd.f16 q)))) none))))) none) none)))):=by kernel_rfl
theorem dZ(mp lp tb ol:Nat)(tp:Int)(q:AE->Mem->Option α):Y.opsF (Ow) Tryd.prog kp 1 (Y.cfT Tryd.prog cf) 133 Ow (AA 133 (up x [(0,.pointer (some ⟨mp,0,none⟩)),(2,.pointer (some ⟨lp,0,none⟩)),(4,.pointer (some ⟨tb,0,none⟩)),(6,.pointer (some ⟨ol,0,none⟩)),(7,.int .u64 tp)])) m q=
 (Y.cellsOf (Mem.get m tb) (λ_ C=>Option.elim (Y.nthL C 1) none (λD=>Y.asInt D (λE A=>cond (Y.kEq .i64 E) (cond (Y.eqF A 3) (q (AA 133 (up (up x [(40,.int .i64 A),(44,.tuple ⟨[]⟩),(42,.bool true),(41,.bool true),(45,.tuple ⟨[]⟩),(43,.tuple ⟨[]⟩),(39,.pointer (some ⟨tb,1,none⟩))]) [(0,.pointer (some ⟨mp,0,none⟩)),(2,.pointer (some ⟨lp,0,none⟩)),(4,.pointer (some ⟨tb,0,none⟩)),(6,.pointer (some ⟨ol,0,none⟩)),(7,.int .u64 tp),(46,.bool true)])) m) (Y.cellsOf (Mem.get m tb) (λ_ F=>Option.elim (Y.nthL F 1) none (λG=>Y.asInt G (λH B=>cond (Y.kEq .i64 H) (cond (Y.eqF B 4) (q (AA 133 (up (up x [(40,.int .i64 A),(44,.int .i64 B),(42,.bool false),(41,.bool false),(45,.bool true),(43,.pointer (some ⟨tb,1,none⟩)),(39,.pointer (some ⟨tb,1,none⟩))]) [(0,.pointer (some ⟨mp,0,none⟩)),(2,.pointer (some ⟨lp,0,none⟩)),(4,.pointer (some ⟨tb,0,none⟩)),(6,.pointer (some ⟨ol,0,none⟩)),(7,.int .u64 tp),(46,.bool true)])) m) (q (AA 133 (up (up x [(40,.int .i64 A),(44,.int .i64 B),(42,.bool false),(41,.bool false),(45,.bool false),(43,.pointer (some ⟨tb,1,none⟩)),(39,.pointer (some ⟨tb,1,none⟩))]) [(0,.pointer (some ⟨mp,0,none⟩)),(2,.pointer (some ⟨lp,0,none⟩)),(4,.pointer (some ⟨tb,0,none⟩)),(6,.pointer (some ⟨ol,0,none⟩)),(7,.int .u64 tp),(46,.bool false)])) m)) none) none)))) none) none))):=by kernel_rfl
theorem SR(mp lp tb ol:Nat)(tp:Int)(bb:Bool)(q:Value->Mem->Option α):Y.kont Tryd.prog kp 1 (Y.cfT Tryd.prog cf) L 133 k E1 0 (Y.retF Tryd.prog Tryd.f16 q) .normal (AA 133 (up x [(0,.pointer (some ⟨mp,0,none⟩)),(2,.pointer (some ⟨lp,0,none⟩)),(4,.pointer (some ⟨tb,0,none⟩)),(6,.pointer (some ⟨ol,0,none⟩)),(7,.int .u64 tp),(46,.bool bb)])) m=
 (cond bb (Y.cellsOf (Mem.get m tb) (λ_ Ag=>Option.elim (Y.nthL Ag 3) none (λAh=>Y.asInt Ah (λAi C=>cond (Y.kEq .i64 Ai) (cf 30 [.int .i64 C] m (λAj D=>Y.asInt Aj (λAk A=>cond (Y.kEq .u64 Ak) (Y.cellsOf (Mem.get D tb) (λ_ Al=>Option.elim (Y.nthL Al 3) none (λAm=>Y.asInt Am (λAn E=>cond (Y.kEq .i64 An) (cond (Y.ltF 1 E) (Y.cellsOf (Mem.get D tb) (λ_ O=>Option.elim (Y.nthL O 3) none (λQ=>Y.asInt Q (λR B=>cond (Y.kEq .i64 R) (cf 25 [.pointer (some ⟨mp,0,none⟩),.agg ⟨[.int .i64 2,.int .i64 0,.int .i64 B,.bool false,.bool false]⟩,.agg ⟨[.int .u8 0,.int .u8 2,.int .u8 0,.int .i16 0,.int .i32 0]⟩] D (λS H=>Y.cellsOf (Mem.get H tb) (λ_ Ao=>Option.elim (Y.nthL Ao 4) none (λAp=>Y.asInt Ap (λAq I=>cond (Y.kEq .u64 Aq) (cond (Y.eqF I A) (L (Y.codeF (Y.loopC E1 1) Tryd.prog kp 1 (Y.cfT Tryd.prog cf) L 133 k) (Y.loopC E1 1) k (AA 133 (up (up x [(48,.int .i64 C),(56,.agg ⟨[.int .i64 2,.int .i64 0,.int .i64 B,.bool false,.bool false]⟩),(68,.int .u64 A),(52,.bool true),(66,.pointer (some ⟨tb,4,none⟩)),(50,.pointer (some ⟨tb,3,none⟩)),(58,S),(54,.pointer (some ⟨tb,3,none⟩)),(46,.bool bb),(65,.bool true),(49,.int .u64 A),(57,.agg ⟨[.int .u8 0,.int .u8 2,.int .u8 0,.int .i16 0,.int .i32 0]⟩),(69,.bool true),(53,.pointer (some ⟨mp,0,none⟩)),(67,.int .u64 I),(51,.int .i64 E),(55,.int .i64 B),(47,.pointer (some ⟨tb,3,none⟩))]) [(0,.pointer (some ⟨mp,0,none⟩)),(2,.pointer (some ⟨lp,0,none⟩)),(4,.pointer (some ⟨tb,0,none⟩)),(6,.pointer (some ⟨ol,0,none⟩)),(7,.int .u64 A)])) H (Y.kont Tryd.prog kp 1 (Y.cfT Tryd.prog cf) L 133 k E1 1 (Y.retF Tryd.prog Tryd.f16 q))) (Y.cellsOf (Mem.get H tb) (λ_ Ar=>Option.elim (Y.nthL Ar 4) none (λAs=>Y.asInt As (λAt T=>cond (Y.kEq .u64 At) (cf 31 [.int .u64 T] H (λAu J=>Y.asBo Au (λAv=>cond Av (Y.cellsOf (Mem.get J tb) (λ_ U=>Option.elim (Y.nthL U 4) none (λV=>Y.asInt V (λW F=>cond (Y.kEq .u64 W) (cf 26 [.pointer (some ⟨mp,0,none⟩),.int .i64 5,.int .u8 2,.int .i32 (IntKind.wrap .i32 F)] J (λX Z=>L (Y.codeF (Y.loopC E1 1) Tryd.prog kp 1 (Y.cfT Tryd.prog cf) L 133 k) (Y.loopC E1 1) k (AA 133 (up (up x [(48,.int .i64 C),(72,.int .u64 T),(56,.agg ⟨[.int .i64 2,.int .i64 0,.int .i64 B,.bool false,.bool false]⟩),(68,.int .u64 A),(52,.bool true),(76,.int .u64 F),(66,.pointer (some ⟨tb,4,none⟩)),(50,.pointer (some ⟨tb,3,none⟩)),(74,.pointer (some ⟨mp,0,none⟩)),(58,S),(70,.bool true),(54,.pointer (some ⟨tb,3,none⟩)),(78,X),(46,.bool bb),(65,.bool false),(49,.int .u64 A),(73,.bool true),(57,.agg ⟨[.int .u8 0,.int .u8 2,.int .u8 0,.int .i16 0,.int .i32 0]⟩),(69,.bool false),(53,.pointer (some ⟨mp,0,none⟩)),(77,.int .i32 (IntKind.wrap .i32 F)),(67,.int .u64 I),(51,.int .i64 E),(75,.pointer (some ⟨tb,4,none⟩)),(71,.pointer (some ⟨tb,4,none⟩)),(55,.int .i64 B),(47,.pointer (some ⟨tb,3,none⟩))]) [(0,.pointer (some ⟨mp,0,none⟩)),(2,.pointer (some ⟨lp,0,none⟩)),(4,.pointer (some ⟨tb,0,none⟩)),(6,.pointer (some ⟨ol,0,none⟩)),(7,.int .u64 A)])) Z (Y.kont Tryd.prog kp 1 (Y.cfT Tryd.prog cf) L 133 k E1 1 (Y.retF Tryd.prog Tryd.f16 q)))) none) none))) (Y.cellsOf (Mem.get J tb) (λ_ U=>Option.elim (Y.nthL U 4) none (λV=>Y.asInt V (λW F=>cond (Y.kEq .u64 W) (cf 32 [.pointer (some ⟨mp,0,none⟩),.int .u8 3,.int .u64 F] J (λX Z=>cf 12 [.pointer (some ⟨mp,0,none⟩),.int .i64 5,.int .u8 2,.int .u8 3] Z (λAw Ax=>L (Y.codeF (Y.loopC E1 1) Tryd.prog kp 1 (Y.cfT Tryd.prog cf) L 133 k) (Y.loopC E1 1) k (AA 133 (up (up x [(64,Aw),(48,.int .i64 C),(72,.int .u64 T),(56,.agg ⟨[.int .i64 2,.int .i64 0,.int .i64 B,.bool false,.bool false]⟩),(68,.int .u64 A),(52,.bool true),(60,.pointer (some ⟨tb,4,none⟩)),(66,.pointer (some ⟨tb,4,none⟩)),(50,.pointer (some ⟨tb,3,none⟩)),(58,S),(70,.bool false),(54,.pointer (some ⟨tb,3,none⟩)),(46,.bool bb),(62,X),(65,.bool false),(49,.int .u64 A),(73,.bool false),(57,.agg ⟨[.int .u8 0,.int .u8 2,.int .u8 0,.int .i16 0,.int .i32 0]⟩),(69,.bool false),(53,.pointer (some ⟨mp,0,none⟩)),(61,.int .u64 F),(67,.int .u64 I),(51,.int .i64 E),(59,.pointer (some ⟨mp,0,none⟩)),(71,.pointer (some ⟨tb,4,none⟩)),(55,.int .i64 B),(47,.pointer (some ⟨tb,3,none⟩)),(63,.pointer (some ⟨mp,0,none⟩))]) [(0,.pointer (some ⟨mp,0,none⟩)),(2,.pointer (some ⟨lp,0,none⟩)),(4,.pointer (some ⟨tb,0,none⟩)),(6,.pointer (some ⟨ol,0,none⟩)),(7,.int .u64 A)])) Ax (Y.kont Tryd.prog kp 1 (Y.cfT Tryd.prog cf) L 133 k E1 1 (Y.retF Tryd.prog Tryd.f16 q))))) none) none)))) none)) none) none)))) none) none)))) none) none))) (Y.cellsOf (Mem.get D tb) (λ_ O=>Option.elim (Y.nthL O 4) none (λQ=>Y.asInt Q (λR B=>cond (Y.kEq .u64 R) (cond (Y.eqF B A) (L (Y.codeF (Y.loopC E1 1) Tryd.prog kp 1 (Y.cfT Tryd.prog cf) L 133 k) (Y.loopC E1 1) k (AA 133 (up (up x [(48,.int .i64 C),(68,.int .u64 A),(52,.bool false),(66,.pointer (some ⟨tb,4,none⟩)),(50,.pointer (some ⟨tb,3,none⟩)),(46,.bool bb),(65,.bool true),(49,.int .u64 A),(69,.bool true),(67,.int .u64 B),(51,.int .i64 E),(47,.pointer (some ⟨tb,3,none⟩))]) [(0,.pointer (some ⟨mp,0,none⟩)),(2,.pointer (some ⟨lp,0,none⟩)),(4,.pointer (some ⟨tb,0,none⟩)),(6,.pointer (some ⟨ol,0,none⟩)),(7,.int .u64 A)])) D (Y.kont Tryd.prog kp 1 (Y.cfT Tryd.prog cf) L 133 k E1 1 (Y.retF Tryd.prog Tryd.f16 q))) (Y.cellsOf (Mem.get D tb) (λ_ Ay=>Option.elim (Y.nthL Ay 4) none (λAz=>Y.asInt Az (λA0 Aa=>cond (Y.kEq .u64 A0) (cf 31 [.int .u64 Aa] D (λA1 N=>Y.asBo A1 (λA2=>cond A2 (Y.cellsOf (Mem.get N tb) (λ_ Ab=>Option.elim (Y.nthL Ab 4) none (λAc=>Y.asInt Ac (λAd G=>cond (Y.kEq .u64 Ad) (cf 26 [.pointer (some ⟨mp,0,none⟩),.int .i64 5,.int .u8 2,.int .i32 (IntKind.wrap .i32 G)] N (λAe Af=>L (Y.codeF (Y.loopC E1 1) Tryd.prog kp 1 (Y.cfT Tryd.prog cf) L 133 k) (Y.loopC E1 1) k (AA 133 (up (up x [(48,.int .i64 C),(72,.int .u64 Aa),(68,.int .u64 A),(52,.bool false),(76,.int .u64 G),(66,.pointer (some ⟨tb,4,none⟩)),(50,.pointer (some ⟨tb,3,none⟩)),(74,.pointer (some ⟨mp,0,none⟩)),(70,.bool true),(78,Ae),(46,.bool bb),(65,.bool false),(49,.int .u64 A),(73,.bool true),(69,.bool false),(77,.int .i32 (IntKind.wrap .i32 G)),(67,.int .u64 B),(51,.int .i64 E),(75,.pointer (some ⟨tb,4,none⟩)),(71,.pointer (some ⟨tb,4,none⟩)),(47,.pointer (some ⟨tb,3,none⟩))]) [(0,.pointer (some ⟨mp,0,none⟩)),(2,.pointer (some ⟨lp,0,none⟩)),(4,.pointer (some ⟨tb,0,none⟩)),(6,.pointer (some ⟨ol,0,none⟩)),(7,.int .u64 A)])) Af (Y.kont Tryd.prog kp 1 (Y.cfT Tryd.prog cf) L 133 k E1 1 (Y.retF Tryd.prog Tryd.f16 q)))) none) none))) (Y.cellsOf (Mem.get N tb) (λ_ Ab=>Option.elim (Y.nthL Ab 4) none (λAc=>Y.asInt Ac (λAd G=>cond (Y.kEq .u64 Ad) (cf 32 [.pointer (some ⟨mp,0,none⟩),.int .u8 3,.int .u64 G] N (λAe Af=>cf 12 [.pointer (some ⟨mp,0,none⟩),.int .i64 5,.int .u8 2,.int .u8 3] Af (λA3 A4=>L (Y.codeF (Y.loopC E1 1) Tryd.prog kp 1 (Y.cfT Tryd.prog cf) L 133 k) (Y.loopC E1 1) k (AA 133 (up (up x [(64,A3),(48,.int .i64 C),(72,.int .u64 Aa),(68,.int .u64 A),(52,.bool false),(60,.pointer (some ⟨tb,4,none⟩)),(66,.pointer (some ⟨tb,4,none⟩)),(50,.pointer (some ⟨tb,3,none⟩)),(70,.bool false),(46,.bool bb),(62,Ae),(65,.bool false),(49,.int .u64 A),(73,.bool false),(69,.bool false),(61,.int .u64 G),(67,.int .u64 B),(51,.int .i64 E),(59,.pointer (some ⟨mp,0,none⟩)),(71,.pointer (some ⟨tb,4,none⟩)),(47,.pointer (some ⟨tb,3,none⟩)),(63,.pointer (some ⟨mp,0,none⟩))]) [(0,.pointer (some ⟨mp,0,none⟩)),(2,.pointer (some ⟨lp,0,none⟩)),(4,.pointer (some ⟨tb,0,none⟩)),(6,.pointer (some ⟨ol,0,none⟩)),(7,.int .u64 A)])) A4 (Y.kont Tryd.prog kp 1 (Y.cfT Tryd.prog cf) L 133 k E1 1 (Y.retF Tryd.prog Tryd.f16 q))))) none) none)))) none)) none) none)))) none) none)))) none) none))) none) none)) none) none))) (L (Y.codeF (Y.loopC E1 1) Tryd.prog kp 1 (Y.cfT Tryd.prog cf) L 133 k) (Y.loopC E1 1) k (AA 133 (up (up x [(46,.bool bb)]) [(0,.pointer (some ⟨mp,0,none⟩)),(2,.pointer (some ⟨lp,0,none⟩)),(4,.pointer (some ⟨tb,0,none⟩)),(6,.pointer (some ⟨ol,0,none⟩)),(7,.int .u64 tp)])) m (Y.kont Tryd.prog kp 1 (Y.cfT Tryd.prog cf) L 133 k E1 1 (Y.retF Tryd.prog Tryd.f16 q)))):=by kernel_rfl
theorem dW(mp lp tb ol:Nat)(tp:Int)(q:AE->Mem->Option α):Y.opsF (Ox) Tryd.prog kp 1 (Y.cfT Tryd.prog cf) 133 Ox (AA 133 (up x [(0,.pointer (some ⟨mp,0,none⟩)),(2,.pointer (some ⟨lp,0,none⟩)),(4,.pointer (some ⟨tb,0,none⟩)),(6,.pointer (some ⟨ol,0,none⟩)),(7,.int .u64 tp)])) m q=
 (Y.cellsOf (Mem.get m tb) (λ_ B=>Option.elim (Y.nthL B 5) none (λC=>Y.asInt C (λD A=>cond (Y.kEq .u64 D) (cond (cond (Y.eqF A 0) false true) (q (AA 133 (up (up x [(80,.int .u64 A),(79,.pointer (some ⟨tb,5,none⟩))]) [(0,.pointer (some ⟨mp,0,none⟩)),(2,.pointer (some ⟨lp,0,none⟩)),(4,.pointer (some ⟨tb,0,none⟩)),(6,.pointer (some ⟨ol,0,none⟩)),(7,.int .u64 tp),(81,.bool true)])) m) (q (AA 133 (up (up x [(80,.int .u64 A),(79,.pointer (some ⟨tb,5,none⟩))]) [(0,.pointer (some ⟨mp,0,none⟩)),(2,.pointer (some ⟨lp,0,none⟩)),(4,.pointer (some ⟨tb,0,none⟩)),(6,.pointer (some ⟨ol,0,none⟩)),(7,.int .u64 tp),(81,.bool false)])) m)) none) none))):=by kernel_rfl
theorem YP(mp lp tb ol:Nat)(tp:Int)(bb:Bool)(q:Value->Mem->Option α):Y.kont Tryd.prog kp 1 (Y.cfT Tryd.prog cf) L 133 k E1 1 (Y.retF Tryd.prog Tryd.f16 q) .normal (AA 133 (up x [(0,.pointer (some ⟨mp,0,none⟩)),(2,.pointer (some ⟨lp,0,none⟩)),(4,.pointer (some ⟨tb,0,none⟩)),(6,.pointer (some ⟨ol,0,none⟩)),(7,.int .u64 tp),(81,.bool bb)])) m=
 (cond bb (Y.cellsOf (Mem.get m tb) (λ_ B=>Option.elim (Y.nthL B 5) none (λC=>Y.asInt C (λD A=>cond (Y.kEq .u64 D) (cf 33 [.pointer (some ⟨mp,0,none⟩),.int .i64 10,.int .u64 A,.pointer (some ⟨ol,0,none⟩)] m (λE F=>L (Y.codeF (Y.loopC E1 2) Tryd.prog kp 1 (Y.cfT Tryd.prog cf) L 133 k) (Y.loopC E1 2) k (AA 133 (up (up x [(84,.int .u64 A),(82,.pointer (some ⟨mp,0,none⟩)),(81,.bool bb),(85,E),(83,.pointer (some ⟨tb,5,none⟩))]) [(0,.pointer (some ⟨mp,0,none⟩)),(2,.pointer (some ⟨lp,0,none⟩)),(4,.pointer (some ⟨tb,0,none⟩)),(6,.pointer (some ⟨ol,0,none⟩)),(7,.int .u64 tp)])) F (Y.kont Tryd.prog kp 1 (Y.cfT Tryd.prog cf) L 133 k E1 2 (Y.retF Tryd.prog Tryd.f16 q)))) none) none))) (L (Y.codeF (Y.loopC E1 2) Tryd.prog kp 1 (Y.cfT Tryd.prog cf) L 133 k) (Y.loopC E1 2) k (AA 133 (up (up x [(81,.bool bb)]) [(0,.pointer (some ⟨mp,0,none⟩)),(2,.pointer (some ⟨lp,0,none⟩)),(4,.pointer (some ⟨tb,0,none⟩)),(6,.pointer (some ⟨ol,0,none⟩)),(7,.int .u64 tp)])) m (Y.kont Tryd.prog kp 1 (Y.cfT Tryd.prog cf) L 133 k E1 2 (Y.retF Tryd.prog Tryd.f16 q)))):=by kernel_rfl
theorem dU(mp lp tb ol:Nat)(tp:Int)(q:AE->Mem->Option α):Y.opsF (Oy) Tryd.prog kp 1 (Y.cfT Tryd.prog cf) 133 Oy (AA 133 (up x [(0,.pointer (some ⟨mp,0,none⟩)),(2,.pointer (some ⟨lp,0,none⟩)),(4,.pointer (some ⟨tb,0,none⟩)),(6,.pointer (some ⟨ol,0,none⟩)),(7,.int .u64 tp)])) m q=
 (Y.cellsOf (Mem.get m tb) (λ_ D=>Option.elim (Y.nthL D 1) none (λE=>Y.asInt E (λF A=>cond (Y.kEq .i64 F) (cond (Y.eqF A 1) (q (AA 133 (up (up x [(96,.tuple ⟨[]⟩),(88,.bool true),(92,.tuple ⟨[]⟩),(98,.tuple ⟨[]⟩),(90,.tuple ⟨[]⟩),(86,.pointer (some ⟨tb,1,none⟩)),(94,.bool true),(97,.tuple ⟨[]⟩),(89,.bool true),(93,.bool true),(91,.tuple ⟨[]⟩),(87,.int .i64 A),(95,.tuple ⟨[]⟩)]) [(0,.pointer (some ⟨mp,0,none⟩)),(2,.pointer (some ⟨lp,0,none⟩)),(4,.pointer (some ⟨tb,0,none⟩)),(6,.pointer (some ⟨ol,0,none⟩)),(7,.int .u64 tp),(99,.bool true)])) m) (Y.cellsOf (Mem.get m tb) (λ_ G=>Option.elim (Y.nthL G 1) none (λH=>Y.asInt H (λI B=>cond (Y.kEq .i64 I) (cond (Y.eqF B 2) (q (AA 133 (up (up x [(96,.tuple ⟨[]⟩),(88,.bool false),(92,.bool true),(98,.tuple ⟨[]⟩),(90,.pointer (some ⟨tb,1,none⟩)),(86,.pointer (some ⟨tb,1,none⟩)),(94,.bool true),(97,.tuple ⟨[]⟩),(89,.bool false),(93,.bool true),(91,.int .i64 B),(87,.int .i64 A),(95,.tuple ⟨[]⟩)]) [(0,.pointer (some ⟨mp,0,none⟩)),(2,.pointer (some ⟨lp,0,none⟩)),(4,.pointer (some ⟨tb,0,none⟩)),(6,.pointer (some ⟨ol,0,none⟩)),(7,.int .u64 tp),(99,.bool true)])) m) (Y.cellsOf (Mem.get m tb) (λ_ J=>Option.elim (Y.nthL J 6) none (λN=>Y.asInt N (λO C=>cond (Y.kEq .u64 O) (cond (cond (Y.eqF C tp) false true) (q (AA 133 (up (up x [(96,.int .u64 C),(88,.bool false),(92,.bool false),(98,.bool true),(90,.pointer (some ⟨tb,1,none⟩)),(86,.pointer (some ⟨tb,1,none⟩)),(94,.bool false),(97,.int .u64 tp),(89,.bool false),(93,.bool false),(91,.int .i64 B),(87,.int .i64 A),(95,.pointer (some ⟨tb,6,none⟩))]) [(0,.pointer (some ⟨mp,0,none⟩)),(2,.pointer (some ⟨lp,0,none⟩)),(4,.pointer (some ⟨tb,0,none⟩)),(6,.pointer (some ⟨ol,0,none⟩)),(7,.int .u64 tp),(99,.bool true)])) m) (q (AA 133 (up (up x [(96,.int .u64 C),(88,.bool false),(92,.bool false),(98,.bool false),(90,.pointer (some ⟨tb,1,none⟩)),(86,.pointer (some ⟨tb,1,none⟩)),(94,.bool false),(97,.int .u64 tp),(89,.bool false),(93,.bool false),(91,.int .i64 B),(87,.int .i64 A),(95,.pointer (some ⟨tb,6,none⟩))]) [(0,.pointer (some ⟨mp,0,none⟩)),(2,.pointer (some ⟨lp,0,none⟩)),(4,.pointer (some ⟨tb,0,none⟩)),(6,.pointer (some ⟨ol,0,none⟩)),(7,.int .u64 tp),(99,.bool false)])) m)) none) none)))) none) none)))) none) none))):=by kernel_rfl
theorem YO(mp lp tb ol:Nat)(tp:Int)(bb:Bool)(q:Value->Mem->Option α):Y.kont Tryd.prog kp 1 (Y.cfT Tryd.prog cf) L 133 k E1 2 (Y.retF Tryd.prog Tryd.f16 q) .normal (AA 133 (up x [(0,.pointer (some ⟨mp,0,none⟩)),(2,.pointer (some ⟨lp,0,none⟩)),(4,.pointer (some ⟨tb,0,none⟩)),(6,.pointer (some ⟨ol,0,none⟩)),(7,.int .u64 tp),(99,.bool bb)])) m=
 (cond bb (Y.cellsOf (Mem.get m tb) (λ_ B=>Option.elim (Y.nthL B 6) none (λC=>Y.asInt C (λD A=>cond (Y.kEq .u64 D) (cf 33 [.pointer (some ⟨mp,0,none⟩),.int .i64 2,.int .u64 A,.pointer (some ⟨ol,0,none⟩)] m (λE F=>L (Y.codeF (Y.loopC E1 3) Tryd.prog kp 1 (Y.cfT Tryd.prog cf) L 133 k) (Y.loopC E1 3) k (AA 133 (up (up x [(100,.pointer (some ⟨mp,0,none⟩)),(102,.int .u64 A),(101,.pointer (some ⟨tb,6,none⟩)),(99,.bool bb),(103,E)]) [(0,.pointer (some ⟨mp,0,none⟩)),(2,.pointer (some ⟨lp,0,none⟩)),(4,.pointer (some ⟨tb,0,none⟩)),(6,.pointer (some ⟨ol,0,none⟩)),(7,.int .u64 tp)])) F (Y.kont Tryd.prog kp 1 (Y.cfT Tryd.prog cf) L 133 k E1 3 (Y.retF Tryd.prog Tryd.f16 q)))) none) none))) (L (Y.codeF (Y.loopC E1 3) Tryd.prog kp 1 (Y.cfT Tryd.prog cf) L 133 k) (Y.loopC E1 3) k (AA 133 (up (up x [(99,.bool bb)]) [(0,.pointer (some ⟨mp,0,none⟩)),(2,.pointer (some ⟨lp,0,none⟩)),(4,.pointer (some ⟨tb,0,none⟩)),(6,.pointer (some ⟨ol,0,none⟩)),(7,.int .u64 tp)])) m (Y.kont Tryd.prog kp 1 (Y.cfT Tryd.prog cf) L 133 k E1 3 (Y.retF Tryd.prog Tryd.f16 q)))):=by kernel_rfl
theorem dR(mp lp tb ol:Nat)(tp:Int)(q:AE->Mem->Option α):Y.opsF (Oz) Tryd.prog kp 1 (Y.cfT Tryd.prog cf) 133 Oz (AA 133 (up x [(0,.pointer (some ⟨mp,0,none⟩)),(2,.pointer (some ⟨lp,0,none⟩)),(4,.pointer (some ⟨tb,0,none⟩)),(6,.pointer (some ⟨ol,0,none⟩)),(7,.int .u64 tp)])) m q=
 (Y.cellsOf (Mem.get m tb) (λ_ A=>Option.elim (Y.nthL A 0) none (λB=>Y.asBo B (λC=>q (AA 133 (up (up x [(104,.pointer (some ⟨tb,0,none⟩))]) [(0,.pointer (some ⟨mp,0,none⟩)),(2,.pointer (some ⟨lp,0,none⟩)),(4,.pointer (some ⟨tb,0,none⟩)),(6,.pointer (some ⟨ol,0,none⟩)),(7,.int .u64 tp),(105,.bool C)])) m) none))):=by kernel_rfl
theorem YN(mp lp tb ol:Nat)(tp:Int)(bb:Bool)(q:Value->Mem->Option α):Y.kont Tryd.prog kp 1 (Y.cfT Tryd.prog cf) L 133 k E1 3 (Y.retF Tryd.prog Tryd.f16 q) .normal (AA 133 (up x [(0,.pointer (some ⟨mp,0,none⟩)),(2,.pointer (some ⟨lp,0,none⟩)),(4,.pointer (some ⟨tb,0,none⟩)),(6,.pointer (some ⟨ol,0,none⟩)),(7,.int .u64 tp),(105,.bool bb)])) m=
 (cond bb (cf 14 [.pointer (some ⟨mp,0,none⟩)] m (λF A=>cf 34 [.pointer (some ⟨mp,0,none⟩),.pointer (some ⟨lp,0,none⟩)] A (λG B=>cf 18 [.pointer (some ⟨mp,0,none⟩),.slice (some ⟨Mem.size B,0,none⟩) 1 1] (Mem.push B (.cells true [.pointer (some ⟨ol,0,none⟩)])) (λH C=>cf 19 [.pointer (some ⟨mp,0,none⟩),.slice (some ⟨Mem.size C,0,none⟩) 1 1] (Mem.push C (.cells true [.pointer (some ⟨ol,0,none⟩)])) (λI D=>q (.tuple ⟨[]⟩) D))))) (cf 34 [.pointer (some ⟨mp,0,none⟩),.pointer (some ⟨Mem.size m,0,none⟩)] (Mem.push m (.cells true [.int .i64 0,.slice none 0 0])) (λF A=>cf 18 [.pointer (some ⟨mp,0,none⟩),.slice (some ⟨Mem.size A,0,none⟩) 1 1] (Mem.push A (.cells true [.pointer (some ⟨ol,0,none⟩)])) (λG B=>cf 14 [.pointer (some ⟨mp,0,none⟩)] B (λH C=>cf 34 [.pointer (some ⟨mp,0,none⟩),.pointer (some ⟨lp,0,none⟩)] C (λI D=>cf 18 [.pointer (some ⟨mp,0,none⟩),.slice (some ⟨Mem.size D,0,none⟩) 1 1] (Mem.push D (.cells true [.pointer (some ⟨Mem.size m,0,none⟩)])) (λN E=>cf 19 [.pointer (some ⟨mp,0,none⟩),.slice (some ⟨Mem.size E,0,none⟩) 2 2] (Mem.push E (.cells true [.pointer (some ⟨ol,0,none⟩),.pointer (some ⟨Mem.size m,0,none⟩)])) (λO J=>q (.tuple ⟨[]⟩) J)))))))):=by kernel_rfl
end
end Go.Proofs.YtgjflcgmieiafaaDoor
namespace Go.Proofs.YtgjflcgmieiafaaDoor
open Go Go.DI Go.DI.Kit Go.Proofs Go.Cmp
noncomputable section
section
variable{α:Type}(x:Nat->Value)(cf:Y.CF α)(L:Y.LK α)(k:Nat)(m:Mem)
theorem dE(lp:Nat)(w0 w5 w6 w7 w8 u:Value)(q:AE->Mem->Option α):Y.opsF (List.drop 8 mL) Tryd.prog kp 1 (Y.cfT Tryd.prog cf) 21 mL (AA 21 (up x [(0,w0),(5,w5),(6,w6),(7,w7),(8,w8),(17,u),(19, .pointer (some ⟨lp,0,none⟩))])) m q=
 Y.storeF Tryd.prog m 3 u (.pointer (some ⟨lp,0,none⟩)) λm'=>q (AA 21 (up (up x [(5,w5),(17,u),(19, .pointer (some ⟨lp,0,none⟩))]) [(0,w0),(6,w6),(7,w7),(8,w8)])) m':=by kernel_rfl
set_option maxHeartbeats 4000000 in
theorem dF(mp lp sb nn jb jn:Nat)(i j at_:Int)(q:AE->Mem->Option α):Y.drawF Tryd.prog kp 1 (Y.cfT Tryd.prog cf) 40 j5 (AA 40 (up x [(0, .pointer (some ⟨mp,0,none⟩)),(5, .pointer (some ⟨lp,0,none⟩)),(7, .int .i64 at_),(8, .slice (some ⟨sb,0,none⟩) nn nn),(9, .int .i64 nn),(10, .int .i64 i),(17, .slice (some ⟨jb,0,some 1⟩) jn jn),(18, .int .i64 jn),(19, .int .i64 j)])) m q=
 (Y.cellsOf (Mem.get m mp) (λx_14 c_15=>(Option.elim (Y.nthL c_15 0) none (λo16=>(Y.asSl o16 (λa_17 n_18 c_19=>(Y.cellsOf (Mem.get m lp) (λx_20 c_21=>(Option.elim (Y.nthL c_21 0) none (λo22=>(Y.asInt o22 (λk'_23 n_24=>(cond (Y.kEq .i64 k'_23) (Option.elim a_17 none (λo25=>(Y.onNat at_ (λi_26=>(cond (Nat.blt i_26 n_18) (Y.storeF Tryd.prog m 86 (.int Go.IntKind.i16 (IntKind.wrap Go.IntKind.i16 (IntKind.wrap .i64 (Int.sub (IntKind.wrap .i64 (Int.sub n_24 at_)) (1:Int))))) (.pointer (some (Addr.mk o25.1 (Nat.add (Nat.add o25.2 (Nat.mul i_26 5)) 3) none))) (λm_s=>(q (AA 40 (up (up x [(32,(.int .i64 at_)),(24,(.pointer (some (Addr.mk mp 0 none)))),(36,(.pointer (some (Addr.mk o25.1 (Nat.add o25.2 (Nat.mul i_26 5)) none)))),(28,(.pointer (some (Addr.mk lp 0 none)))),(34,(.int .i64 (IntKind.wrap .i64 (Int.sub (IntKind.wrap .i64 (Int.sub n_24 at_)) (1:Int))))),(26,(.slice a_17 n_18 c_19)),(30,(.pointer (some (Addr.mk lp 0 none)))),(33,(.int .i64 (IntKind.wrap .i64 (Int.sub n_24 at_)))),(25,(.pointer (some (Addr.mk mp 0 none)))),(29,(.pointer (some (Addr.mk lp 0 none)))),(27,(.int .i64 at_)),(7,(.int .i64 at_)),(23,(.pointer (some (Addr.mk mp 0 none)))),(31,(.int .i64 n_24)),(35,(.int Go.IntKind.i16 (IntKind.wrap Go.IntKind.i16 (IntKind.wrap .i64 (Int.sub (IntKind.wrap .i64 (Int.sub n_24 at_)) (1:Int)))))),(37,(.pointer (some (Addr.mk o25.1 (Nat.add (Nat.add o25.2 (Nat.mul i_26 5)) 3) none))))]) [(0,(.pointer (some (Addr.mk mp 0 none)))),(5,(.pointer (some (Addr.mk lp 0 none)))),(8,(.slice (some (Addr.mk sb 0 none)) nn nn)),(9,(.int .i64 (Int.ofNat nn))),(10,(.int .i64 i)),(17,(.slice (some (Addr.mk jb 0 (some 1))) jn jn)),(18,(.int .i64 (Int.ofNat jn))),(19,(.int .i64 j))])) m_s))) none))))) none)) none)))))) none))))):=by kernel_rfl
theorem j6(t:AE)(q:Y.ExK α):Y.codeF (Y.loopC mM 0) Tryd.prog kp 1 (Y.cfT Tryd.prog cf) L 21 k t m q=Y.opsF mL Tryd.prog kp 1 (Y.cfT Tryd.prog cf) 21 mL t m λt m=>q .normal t m:=by kernel_rfl
theorem j7(t:AE)(q:Y.ExK α):Y.codeF (Y.loopC YD 0) Tryd.prog kp 1 (Y.cfT Tryd.prog cf) L 40 k t m q=Y.opsF pM Tryd.prog kp 1 (Y.cfT Tryd.prog cf) 40 pM t m λt m=>q .normal t m:=by kernel_rfl
theorem nD:Y.loopC QG 0=Code.region 6 ⟨j5⟩ true:=by kernel_rfl
theorem dG(t:AE)(q:Y.ExK α):Y.codeF (Y.loopC QG 0) Tryd.prog kp 1 (Y.cfT Tryd.prog cf) L 40 k t m q=Y.drawF Tryd.prog kp 1 (Y.cfT Tryd.prog cf) 40 j5 t m λt m=>q .normal t m:=by
 rw[nD];rfl
end
theorem rC:Tryd.prog.funcs[18]?=some Tryd.f18:=by kernel_rfl
theorem rD:Tryd.f18.body=some (AN Tryd.f18):=by kernel_rfl
theorem rE:Tryd.f18.ntmps=21:=by kernel_rfl
theorem n23{a b:Value}:max [a,b].length Tryd.f18.ntmps=21:=by rw[rE];rfl
theorem rF:IP Tryd.prog 18 Bl=true:=by kernel_rfl
theorem rG:Tryd.prog.funcs[19]?=some Tryd.f19:=by kernel_rfl
theorem rH:Tryd.f19.body=some (AN Tryd.f19):=by kernel_rfl
theorem rK:Tryd.f19.ntmps=40:=by kernel_rfl
theorem n24{a b:Value}:max [a,b].length Tryd.f19.ntmps=40:=by rw[rK];rfl
theorem rN:IP Tryd.prog 19 Bl=true:=by kernel_rfl
theorem rO:Bh Tryd.prog 86=some 1:=by kernel_rfl
section
variable{K K':CU}{mp:Nat}{rows:List A9}{AJ labs':List (Nat×Nat)}{fr fr':Nat->Prop}{M M':Mem}
variable{o:DT}{k:Nat}
theorem St.here{lp l:Nat}(h:St K mp rows ((lp,l)::AJ) fr M):∃u,M.get mp= .cells true [.slice u (BU rows) (BU rows)]/\∃c,M.get lp= .cells true c/\c.length=2/\St K mp (rows++ [lab l]) ((lp,l)::AJ) fr (M.set lp (.cells true (splice c 0 [.int .i64 (BU rows:Int)]))):=by
 obtain⟨f,h⟩:=h
 have hlen:=Bo f rows 0
 have hpos:=h.pos (lp,l) (List.mem_cons_self ..)
 have hnod:=List.nodup_cons.1 h.nod
 have hne:∀y∈AJ,y.2≠l:=λy hy e=>hnod.1 (List.mem_map.2 ⟨y,hy,e⟩)
 obtain⟨_,_,_,⟨u,rfl⟩,gm,_⟩:=h.hp.set
 have h2:Hp M K ((lp,NQ (JM rows l:Int) (Bk l rows 0))::(mp,HN (C1 f rows 0))::AJ.map (Oq rows)):=h.hp.perm (List.Perm.swap _ _ _)
 obtain⟨_,_,_,⟨v,rfl⟩,gl2,hs⟩:=h2.set
 refine⟨u,?_,_,gl2,rfl,f,?_,h.glob,h.pos,h.nod,?_,?_,?_⟩
 ·rw[gm];show _=BI.cells true [.slice u (BU rows) (BU rows)];rw[←hlen];rfl
 ·have hs:=hs [.int .i64 (BU rows:Int)] []
  have e1:AJ.map (Oq (rows++ [lab l]))=AJ.map (Oq rows):=by
   refine List.map_congr_left λy hy=>?_;simp only[Oq,JT rows hpos.1,KE rows _ hpos.1];rw[if_neg (hne y hy)]
  have e2:Oq (rows++ [lab l]) (lp,l)=(lp,NQ (BU rows:Int) (Bk l rows 0)):=by
   simp only[Oq,JT rows hpos.1,KE rows _ hpos.1,if_true]
  rw[List.map_cons,e1,e2,Nm f rows hpos.1];exact hs.perm (List.Perm.swap _ _ _)
 ·intro j hj;obtain⟨g0,g1,g2,g3⟩:=h.free j hj;refine⟨g0,g1,g2,λr hr=>?_⟩;rcases List.mem_append.1 hr with hr|hr
  ·exact g3 r hr
  ·obtain rfl:=List.mem_singleton.1 hr;exact⟨by show 0≠j;omega,g2 (lp,l) (List.mem_cons_self ..)⟩
 ·intro j q hq;rw[JT rows hpos.1,if_neg (by rintro rfl;rw[hpos.2]at hq;cases hq)];exact h.sett j q hq
 ·intro r hr h0;rcases List.mem_append.1 hr with hr|hr
  ·exact h.known r hr h0
  ·obtain rfl:=List.mem_singleton.1 hr;exact absurd h0 (Nat.lt_irrefl 0)
theorem LO{sb lp l:Nat}(ho:∀a m,o 18 a m=none)(hk:5<=k)(hl:rows.length<=100000)(h:St K mp rows ((lp,l)::AJ) fr M)(hsb:K sb=some (.cells true [ptr lp])):
  ∃M',AL Tryd.prog kp 1 o k 18 [ptr mp, .slice (some ⟨sb,0,none⟩) 1 1] M=some (Bl,M')/\St K mp (rows++ [lab l]) ((lp,l)::AJ) fr M':=by
 obtain⟨k,rfl⟩:∃k',k=k'+1:=⟨k - 1,by omega⟩
 obtain⟨u,gm,c,gc,hcl,h'⟩:=h.here
 have gs:=h.get hsb
 obtain⟨M1,hM1⟩:∃M1,M.set lp (.cells true (splice c 0 [.int .i64 (BU rows:Int)]))=M1:=⟨_,rfl⟩
 rw[hM1]at h'
 refine⟨M1,Bs 21 (ho _ _) rC rD n23 ?_ rF,h'⟩
 refine Eq.trans (WA ..) ?_
 have hT:∀x,∃x',AH Tryd.prog kp 1 (AL Tryd.prog kp 1 o k) (A6 Tryd.prog kp 1 (AL Tryd.prog kp 1 o k) 21) 21 k (BW Tryd.f18 0) (AA 21 (up x [(0, .pointer (some ⟨mp,0,none⟩)),(6, .slice (some ⟨sb,0,none⟩) 1 1),(7, .int .i64 (1:Nat)),(8, .int .i64 (0:Nat))])) M=
   some (.normal,AA 21 (up x' [(0, .pointer (some ⟨mp,0,none⟩)),(6, .slice (some ⟨sb,0,none⟩) 1 1),(7, .int .i64 (1:Nat)),(8, .int .i64 (1:Nat))]),M1):=by
  intro x;apply Exists.intro;refine EZ ((B5 [3] Tryd.prog kp 1 _ (Y.lpOf Tryd.prog kp 1 (AL Tryd.prog kp 1 o k) 21) (λ_ _ _ _ _ _ _=>rfl) 21 k (BW Tryd.f18 0) (by kernel_rfl) _ M _).trans ?_);refine Eq.trans (UQ ..) ?_;rw[FO (by omega),AG,Eh,GY (by omega),AG,gs,AT,show Y.nthL [ptr lp] (Nat.add 0 (Nat.mul 0 1))=some (.pointer (some ⟨lp,0,none⟩))from rfl,BM,gC];refine Eq.trans (BP _ _ _ (by kernel_rfl) _ _ _ _) ?_;refine Eq.trans (j6 ..) ?_;refine Eq.trans (Cc 8 ..) ?_;refine Eq.trans (dH ..) ?_;rw[gm,AT,show Y.nthL [Value.slice u (BU rows) (BU rows)] 0=some (.slice u (BU rows) (BU rows))from rfl,BM,Dw];refine Eq.trans (dE ..) ?_;rw[Y.storeF_eq,show Bx Tryd.prog M 3 (.int .i64 (Int.ofNat (BU rows))) (.pointer (some ⟨lp,0,none⟩))=some M1 from(Cn (n:=1) sq rfl gc (by omega) rfl).trans (congrArg some hM1),Y.ob_some];refine Eq.trans (dI ..) ?_;rw[Ca (by omega)];rfl
 have hS:∀x,∃x',AH Tryd.prog kp 1 (AL Tryd.prog kp 1 o k) (A6 Tryd.prog kp 1 (AL Tryd.prog kp 1 o k) 21) 21 k (BW Tryd.f18 0) (AA 21 (up x [(0, .pointer (some ⟨mp,0,none⟩)),(6, .slice (some ⟨sb,0,none⟩) 1 1),(7, .int .i64 (1:Nat)),(8, .int .i64 (1:Nat))])) M1=
   some (.exit 0,AA 21 (up x' [(0, .pointer (some ⟨mp,0,none⟩)),(6, .slice (some ⟨sb,0,none⟩) 1 1),(7, .int .i64 (1:Nat)),(8, .int .i64 (1:Nat))]),M1):=by
  intro x;apply Exists.intro;refine EZ ((B5 [3] Tryd.prog kp 1 _ (Y.lpOf Tryd.prog kp 1 (AL Tryd.prog kp 1 o k) 21) (λ_ _ _ _ _ _ _=>rfl) 21 k (BW Tryd.f18 0) (by kernel_rfl) _ M1 _).trans ?_);refine Eq.trans (UQ ..) ?_;rw[I4 (by omega),BH];rfl
 obtain⟨k2,rfl⟩:∃k2,k=k2+2:=⟨k - 2,by omega⟩
 obtain⟨x1,hT⟩:=hT (up Go.DI.x0 [(1,(.slice (some (Addr.mk sb 0 none)) 1 1))])
 obtain⟨x2,hS⟩:=hS x1
 have hloop:B2 _ (k2+2) _ _=_:=(EE (k2+1) hT).trans (Db k2 hS (by simp))
 rw[show((0:Nat):Int)=0 from rfl]at hloop
 rw[Y.lpOf_eq,Y.loopC_body,Int.ofNat_eq_natCast,hloop,Y.onE_some]
 exact SK ..
theorem HV(q n:Nat):∀(J:List Nat) (c:List B1),(Ct q n J c).length=c.length
 | [],c=>rfl
 |p::J,c=>(HV q n J _).trans (GC _ _ _)
theorem HW(q n:Nat):∀(a b:List Nat) (c:List B1),Ct q n (a++b) c=Ct q n b (Ct q n a c)
 | [],b,c=>rfl
 |p::a,b,c=>HW q n a b _
def UR(J:List Nat):List Value:=J.map λ(j:Nat)=> .int .i64 (j:Int)
theorem WB{J:List Nat}{j p:Nat}(h:J[j]?=some p):Y.nthL (UR J) (Nat.add 0 (Nat.mul j 1))=some (.int .i64 (p:Int)):=by
 rw[show Nat.add 0 (Nat.mul j 1)=j from by show 0+j*1=j;omega,Y.nthL_eq,UR,List.getElem?_map,h];rfl
theorem Li{hs:List (Nat×Bq)}{c0:List B1}{J:List Nat}{q lp jb sb nn i:Nat}(hq:q<=1000000)(hc:c0.length<=1000000)(hJ:∀p∈J,p<c0.length)(hJl:J.length<=1000000)(hk:J.length+1<=k):
  ∀(d j:Nat),J.length=j+d->∀(jj:Nat) (x:Nat->Value) (M:Mem),d+1<=jj->Hp M K ((mp,HN (Ct q 0 (J.take j) c0))::(lp,NQ (q:Int) J)::hs)->(J≠ []->M.get lp= .cells true [.int .i64 (q:Int), .slice (some ⟨jb,0,some 1⟩) J.length J.length]/\M.get jb= .cells true (UR J))->
  ∃x' M',B2 (AH Tryd.prog kp 1 (AL Tryd.prog kp 1 o k) (A6 Tryd.prog kp 1 (AL Tryd.prog kp 1 o k) 40) 40 k (BW Tryd.f19 1)) jj
    (AA 40 (up x [(0, .pointer (some ⟨mp,0,none⟩)),(5, .pointer (some ⟨lp,0,none⟩)),(8, .slice (some ⟨sb,0,none⟩) nn nn),(9, .int .i64 (nn:Int)),(10, .int .i64 (i:Int)),(17, .slice (some ⟨jb,0,some 1⟩) J.length J.length),(18, .int .i64 (J.length:Int)),(19, .int .i64 (j:Int))])) M=
   some (.exit 2,AA 40 (up x' [(0, .pointer (some ⟨mp,0,none⟩)),(5, .pointer (some ⟨lp,0,none⟩)),(8, .slice (some ⟨sb,0,none⟩) nn nn),(9, .int .i64 (nn:Int)),(10, .int .i64 (i:Int)),(17, .slice (some ⟨jb,0,some 1⟩) J.length J.length),(18, .int .i64 (J.length:Int)),(19, .int .i64 (J.length:Int))]),M')/\
   Hp M' K ((mp,HN (Ct q 0 J c0))::(lp,NQ (q:Int) J)::hs)
 |0,j,hj,jj,x,M,hjj,hh,_=>by
  obtain⟨jj,rfl⟩:∃j',jj=j'+1:=⟨jj - 1,by omega⟩;obtain rfl:j=J.length:=by omega
  rw[List.take_length]at hh
  have hb:∃x',AH Tryd.prog kp 1 (AL Tryd.prog kp 1 o k) (A6 Tryd.prog kp 1 (AL Tryd.prog kp 1 o k) 40) 40 k (BW Tryd.f19 1) (AA 40 (up x [(0, .pointer (some ⟨mp,0,none⟩)),(5, .pointer (some ⟨lp,0,none⟩)),(8, .slice (some ⟨sb,0,none⟩) nn nn),(9, .int .i64 (nn:Int)),(10, .int .i64 (i:Int)),(17, .slice (some ⟨jb,0,some 1⟩) J.length J.length),(18, .int .i64 (J.length:Int)),(19, .int .i64 (J.length:Int))])) M=
    some (.exit 2,AA 40 (up x' [(0, .pointer (some ⟨mp,0,none⟩)),(5, .pointer (some ⟨lp,0,none⟩)),(8, .slice (some ⟨sb,0,none⟩) nn nn),(9, .int .i64 (nn:Int)),(10, .int .i64 (i:Int)),(17, .slice (some ⟨jb,0,some 1⟩) J.length J.length),(18, .int .i64 (J.length:Int)),(19, .int .i64 (J.length:Int))]),M):=by
   apply Exists.intro;refine EZ ((B5 [6] Tryd.prog kp 1 _ (Y.lpOf Tryd.prog kp 1 (AL Tryd.prog kp 1 o k) 40) (λ_ _ _ _ _ _ _=>rfl) 40 k (BW Tryd.f19 1) (by kernel_rfl) _ M _).trans ?_);refine Eq.trans (YE ..) ?_;rw[I4 (by omega),BH];rfl
  obtain⟨x',hb⟩:=hb;exact⟨x',M,Db jj hb (by simp),hh⟩
 |d+1,j,hj,jj,x,M,hjj,hh,hm=>by
  obtain⟨jj,rfl⟩:∃j',jj=j'+1:=⟨jj - 1,by omega⟩;have hlt:j<J.length:=by omega
  have hJ0:J≠ []:=by rintro rfl;simp at hlt
  obtain⟨p,hp⟩:∃p,J[j]?=some p:=⟨_,List.getElem?_eq_getElem hlt⟩;have hpm:p∈J:=List.mem_of_getElem? hp;have hpl:=hJ p hpm;obtain⟨gl1,gj1⟩:=hm hJ0;obtain⟨cj,hcj⟩:∃cj,Ct q 0 (J.take j) c0=cj:=⟨_,rfl⟩;have hcl:cj.length=c0.length:=by rw[←hcj];exact HV ..
  rw[hcj]at hh;obtain⟨c,c2,gm,gc,gl2,gj2,n1,n2,n3,hset⟩:=hh.poke2 (by show 0<cj.length;omega) (by show 0<J.length;omega)
  have e2:c2=jb:=by
   rw[gl1]at gl2;simp[NQ]at gl2;exact gl2.symm
  subst e2
  have hst:Bx Tryd.prog M 86 (.int .i16 (GZ ((q:Int) - p - 1))) (.pointer (some ⟨c,p*5+3,none⟩))=some (M.set c (.cells true (AD (JU cj p (SD q p))))):=by
   rw[Cn (n:=1) rO rfl gc (by show p*5+3+1<=(AD cj).length;rw[Hr];omega) rfl];congr 3;exact Nn q cj p p (by omega)
  obtain⟨M1,hM1⟩:∃M1,M.set c (.cells true (AD (JU cj p (SD q p))))=M1:=⟨_,rfl⟩;rw[hM1]at hst
  have hh1:Hp M1 K ((mp,HN (Ct q 0 (J.take (j+1)) c0))::(lp,NQ (q:Int) J)::hs):=by
   have:=hset (AD (JU cj p (SD q p))) (by show _=(AD cj).length;rw[Hr,Hr,GC]) (No _);rw[hM1]at this
   have e:Ct q 0 (J.take (j+1)) c0=JU cj p (SD q p):=by
    rw[List.take_add_one,hp,Option.toList_some,HW,hcj];rfl
   rw[e];have e3:({HN cj with c:=AD (JU cj p (SD q p))}:Bq)=HN (JU cj p (SD q p)):=by simp[HN,GC,AD]
   rw[e3]at this;exact this
  have gl3:M1.get lp= .cells true [.int .i64 (q:Int), .slice (some ⟨c2,0,some 1⟩) J.length J.length]:=by rw[←hM1,Mem.get_set_ne _ n2];exact gl1
  have gj3:M1.get c2= .cells true (UR J):=by rw[←hM1,Mem.get_set_ne _ n3];exact gj1
  have gm3:M1.get mp= .cells true [.slice (some ⟨c,0,some 5⟩) cj.length cj.length]:=by rw[←hM1,Mem.get_set_ne _ n1];exact gm
  have gm':M.get mp= .cells true [.slice (some ⟨c,0,some 5⟩) cj.length cj.length]:=gm
  have hb:∃x',AH Tryd.prog kp 1 (AL Tryd.prog kp 1 o k) (A6 Tryd.prog kp 1 (AL Tryd.prog kp 1 o k) 40) 40 k (BW Tryd.f19 1) (AA 40 (up x [(0, .pointer (some ⟨mp,0,none⟩)),(5, .pointer (some ⟨lp,0,none⟩)),(8, .slice (some ⟨sb,0,none⟩) nn nn),(9, .int .i64 (nn:Int)),(10, .int .i64 (i:Int)),(17, .slice (some ⟨c2,0,some 1⟩) J.length J.length),(18, .int .i64 (J.length:Int)),(19, .int .i64 (j:Int))])) M=
    some (.normal,AA 40 (up x' [(0, .pointer (some ⟨mp,0,none⟩)),(5, .pointer (some ⟨lp,0,none⟩)),(8, .slice (some ⟨sb,0,none⟩) nn nn),(9, .int .i64 (nn:Int)),(10, .int .i64 (i:Int)),(17, .slice (some ⟨c2,0,some 1⟩) J.length J.length),(18, .int .i64 (J.length:Int)),(19, .int .i64 ((j+1:Nat):Int))]),M1):=by
   apply Exists.intro;refine EZ ((B5 [6] Tryd.prog kp 1 _ (Y.lpOf Tryd.prog kp 1 (AL Tryd.prog kp 1 o k) 40) (λ_ _ _ _ _ _ _=>rfl) 40 k (BW Tryd.f19 1) (by kernel_rfl) _ M _).trans ?_);refine Eq.trans (YE ..) ?_;rw[FO hlt,AG,Eh,GY hlt,AG,gj1,AT,WB hp,BM,BD,Bt,AG];refine Eq.trans (BP _ _ _ (by kernel_rfl) _ _ _ _) ?_;refine Eq.trans (dG ..) ?_;refine Eq.trans (dF ..) ?_
   rw[gm',AT,show Y.nthL [Value.slice (some ⟨c,0,some 5⟩) cj.length cj.length] 0=some (.slice (some ⟨c,0,some 5⟩) cj.length cj.length)from rfl,BM,Dw,gl1,AT,
    show Y.nthL [Value.int .i64 (q:Int), .slice (some ⟨c2,0,some 1⟩) J.length J.length] 0=some (.int .i64 (q:Int))from rfl,BM,BD,Bt,AG,BM,Eh,GY (by omega),AG]
   rw[wrap64 (x:=Int.sub (q:Int) (p:Int)) (by show _<=(q:Int) - (p:Int)/\(q:Int) - (p:Int)<=_;omega),wrap64 (x:=Int.sub (Int.sub (q:Int) (p:Int)) 1) (by show _<=(q:Int) - (p:Int) - 1/\(q:Int) - (p:Int) - 1<=_;omega)];rw[Y.storeF_eq,show Nat.add (Nat.add ({block:=c,off:=0,spot:=some 5}:Addr).2 (Nat.mul p 5)) 3=p*5+3 from by show 0+p*5+3=_;omega];rw[show Bx Tryd.prog M 86 (.int .i16 (IntKind.wrap .i16 (Int.sub (Int.sub (q:Int) (p:Int)) 1))) (.pointer (some ⟨c,p*5+3,none⟩))=some M1 from hst,Y.ob_some];refine Eq.trans (j8 ..) ?_;rw[Ca (by omega)];rfl
  obtain⟨x',hb⟩:=hb;obtain⟨x2,M2,h2,h3⟩:=Li hq hc hJ hJl hk d (j+1) (by omega) jj x' M1 (by omega) hh1 λ_=>⟨gl3,gj3⟩;exact⟨x2,M2,(EE jj hb).trans h2,h3⟩
end
theorem dJ{α:Type}(x:Nat->Value)(cf:Y.CF α)(L:Y.LK α)(k:Nat)(w0 w5 w8 w9 w10 w17:Value)(m:Mem)(q:Y.ExK α):Y.codeF QG Tryd.prog kp 1 (Y.cfT Tryd.prog cf) L 40 k (AA 40 (up x [(0,w0),(5,w5),(8,w8),(9,w9),(10,w10),(17,w17),(18, .int .i64 (0:Nat)),(19, .int .i64 (0:Nat))])) m q=
 q (.exit 2) (AA 40 (up (up x [(20, .bool false)]) [(0,w0),(5,w5),(8,w8),(9,w9),(10,w10),(17,w17),(18, .int .i64 (0:Nat)),(19, .int .i64 (0:Nat))])) m:=by kernel_rfl
theorem rQ:Y.loopC YD 1=BW Tryd.f19 1:=by kernel_rfl
section
variable{K K':CU}{mp:Nat}{rows:List A9}{AJ labs':List (Nat×Nat)}{fr fr':Nat->Prop}{M M':Mem}
variable{o:DT}{k:Nat}
theorem WC{hs:List (Nat×Bq)}{c0:List B1}{J:List Nat}{q lp sb nn i:Nat}(hq:q<=1000000)(hc:c0.length<=1000000)(hJ:∀p∈J,p<c0.length)(hJl:J.length<=1000000)(hk:J.length+1<=k) (hh:Hp M K ((mp,HN c0)::(lp,NQ (q:Int) J)::hs)):
  ∃a,M.get lp= .cells true [.int .i64 (q:Int), .slice a J.length J.length]/\∀x,∃x' M',B2 (AH Tryd.prog kp 1 (AL Tryd.prog kp 1 o k) (A6 Tryd.prog kp 1 (AL Tryd.prog kp 1 o k) 40) 40 k (BW Tryd.f19 1)) k
    (AA 40 (up x [(0, .pointer (some ⟨mp,0,none⟩)),(5, .pointer (some ⟨lp,0,none⟩)),(8, .slice (some ⟨sb,0,none⟩) nn nn),(9, .int .i64 (nn:Int)),(10, .int .i64 (i:Int)),(17, .slice a J.length J.length),(18, .int .i64 (J.length:Int)),(19, .int .i64 (0:Nat))])) M=
   some (.exit 2,AA 40 (up x' [(0, .pointer (some ⟨mp,0,none⟩)),(5, .pointer (some ⟨lp,0,none⟩)),(8, .slice (some ⟨sb,0,none⟩) nn nn),(9, .int .i64 (nn:Int)),(10, .int .i64 (i:Int)),(17, .slice a J.length J.length),(18, .int .i64 (J.length:Int)),(19, .int .i64 (J.length:Int))]),M')/\
   Hp M' K ((mp,HN (Ct q 0 J c0))::(lp,NQ (q:Int) J)::hs):=by
 have h2:Hp M K ((lp,NQ (q:Int) J)::(mp,HN c0)::hs):=hh.perm (List.Perm.swap _ _ _)
 by_cases hJ0:J= []
 ·obtain⟨_,_,_,⟨u,rfl⟩,gm,_⟩:=h2.set;refine⟨u,gm,λx=>?_⟩;subst hJ0;obtain⟨k,rfl⟩:∃k',k=k'+1:=⟨k - 1,by omega⟩
  have hb:∃x',AH Tryd.prog kp 1 (AL Tryd.prog kp 1 o (k+1)) (A6 Tryd.prog kp 1 (AL Tryd.prog kp 1 o (k+1)) 40) 40 (k+1) (BW Tryd.f19 1) (AA 40 (up x [(0, .pointer (some ⟨mp,0,none⟩)),(5, .pointer (some ⟨lp,0,none⟩)),(8, .slice (some ⟨sb,0,none⟩) nn nn),(9, .int .i64 (nn:Int)),(10, .int .i64 (i:Int)),(17, .slice u 0 0),(18, .int .i64 (0:Nat)),(19, .int .i64 (0:Nat))])) M=
    some (.exit 2,AA 40 (up x' [(0, .pointer (some ⟨mp,0,none⟩)),(5, .pointer (some ⟨lp,0,none⟩)),(8, .slice (some ⟨sb,0,none⟩) nn nn),(9, .int .i64 (nn:Int)),(10, .int .i64 (i:Int)),(17, .slice u 0 0),(18, .int .i64 (0:Nat)),(19, .int .i64 (0:Nat))]),M):=by
   apply Exists.intro;refine EZ ((B5 [6] Tryd.prog kp 1 _ (Y.lpOf Tryd.prog kp 1 (AL Tryd.prog kp 1 o (k+1)) 40) (λ_ _ _ _ _ _ _=>rfl) 40 (k+1) (BW Tryd.f19 1) (by kernel_rfl) _ M _).trans ?_);exact dJ ..
  obtain⟨x',hb⟩:=hb;exact⟨x',M,Db k hb (by simp),hh⟩
 ·have h0:0<J.length:=List.length_pos_iff.2 hJ0;obtain⟨c,g1,g2,_⟩:=h2.poke h0;refine⟨some ⟨c,0,some 1⟩,g1,λx=>?_⟩;exact Li hq hc hJ hJl hk J.length 0 (by omega) k x M (by omega) (by rw[List.take_zero];exact hh) λ_=>⟨g1,g2⟩
theorem rR.settled{f:Nat->Option Nat}{lp l:Nat}(h:rR K mp f rows ((lp,l)::AJ) fr M) (h':Hp M' K ((mp,HN (Ct (JM rows l) 0 (Bk l rows 0) (C1 f rows 0)))::(lp,NQ (JM rows l:Int) (Bk l rows 0))::AJ.map (Oq rows))):St K mp rows AJ fr M':=by
 have hpos:=h.pos (lp,l) (List.mem_cons_self ..)
 have hnod:=List.nodup_cons.1 h.nod
 have hne:∀y∈AJ,y.2≠l:=λy hy e=>hnod.1 (List.mem_map.2 ⟨y,hy,e⟩)
 rw[I9 f l (JM rows l) hpos.1 rows 0]at h'
 refine⟨Ot f l (JM rows l),(h'.perm (List.Perm.swap _ _ _)).tail,h.glob,λx hx=>⟨(h.pos x (List.mem_cons_of_mem _ hx)).1,?_⟩,hnod.2,λj hj=>?_,λj q hq=>?_,λr hr h0=>?_⟩
 ·unfold Ot;rw[if_neg (hne x hx)];exact(h.pos x (List.mem_cons_of_mem _ hx)).2
 ·obtain⟨g0,g1,g2,g3⟩:=h.free j hj;refine⟨g0,?_,λx hx=>g2 x (List.mem_cons_of_mem _ hx),g3⟩;unfold Ot;rw[if_neg (λe=>g2 (lp,l) (List.mem_cons_self ..) e.symm)];exact g1
 ·unfold Ot at hq;split at hq
  ·rename_i e;rw[e];exact(Option.some.inj hq).symm
  ·exact h.sett j q hq
 ·by_cases he:r.to=l
  ·right;unfold Ot;rw[if_pos he];rfl
  ·rcases h.known r hr h0 with⟨x,hx,hxe⟩|hs
   ·rcases List.mem_cons.1 hx with rfl|hx
    ·exact absurd hxe.symm he
    ·exact .inl ⟨x,hx,hxe⟩
   ·right;unfold Ot;rw[if_neg he];exact hs
theorem Kh{ps:List (Nat×Nat)}{sb:Nat}(hl:rows.length<=100000)(hk:rows.length+1<=k)(hps:ps.length<=100000)(hsb:K sb=some (.cells true (ps.map λx=>ptr x.1))):
  ∀(d i:Nat),ps.length=i+d->∀(jj:Nat) (x:Nat->Value) (M:Mem),d+1<=jj->St K mp rows (ps.drop i++AJ) fr M->
  ∃x' M',B2 (AH Tryd.prog kp 1 (AL Tryd.prog kp 1 o k) (A6 Tryd.prog kp 1 (AL Tryd.prog kp 1 o k) 40) 40 k (BW Tryd.f19 0)) jj
    (AA 40 (up x [(0, .pointer (some ⟨mp,0,none⟩)),(8, .slice (some ⟨sb,0,none⟩) ps.length ps.length),(9, .int .i64 (ps.length:Int)),(10, .int .i64 (i:Int))])) M=
   some (.exit 0,AA 40 (up x' [(0, .pointer (some ⟨mp,0,none⟩)),(8, .slice (some ⟨sb,0,none⟩) ps.length ps.length),(9, .int .i64 (ps.length:Int)),(10, .int .i64 (ps.length:Int))]),M')/\St K mp rows AJ fr M'
 |0,i,hi,jj,x,M,hjj,h=>by
  obtain⟨jj,rfl⟩:∃j',jj=j'+1:=⟨jj - 1,by omega⟩;obtain rfl:i=ps.length:=by omega
  rw[List.drop_length,List.nil_append]at h
  have hb:∃x',AH Tryd.prog kp 1 (AL Tryd.prog kp 1 o k) (A6 Tryd.prog kp 1 (AL Tryd.prog kp 1 o k) 40) 40 k (BW Tryd.f19 0) (AA 40 (up x [(0, .pointer (some ⟨mp,0,none⟩)),(8, .slice (some ⟨sb,0,none⟩) ps.length ps.length),(9, .int .i64 (ps.length:Int)),(10, .int .i64 (ps.length:Int))])) M=
    some (.exit 0,AA 40 (up x' [(0, .pointer (some ⟨mp,0,none⟩)),(8, .slice (some ⟨sb,0,none⟩) ps.length ps.length),(9, .int .i64 (ps.length:Int)),(10, .int .i64 (ps.length:Int))]),M):=by
   apply Exists.intro;refine EZ ((B5 [3] Tryd.prog kp 1 _ (Y.lpOf Tryd.prog kp 1 (AL Tryd.prog kp 1 o k) 40) (λ_ _ _ _ _ _ _=>rfl) 40 k (BW Tryd.f19 0) (by kernel_rfl) _ M _).trans ?_);refine Eq.trans (YF ..) ?_;rw[I4 (by omega),BH];rfl
  obtain⟨x',hb⟩:=hb;exact⟨x',M,Db jj hb (by simp),h⟩
 |d+1,i,hi,jj,x,M,hjj,h=>by
  obtain⟨jj,rfl⟩:∃j',jj=j'+1:=⟨jj - 1,by omega⟩;have hlt:i<ps.length:=by omega
  obtain⟨p,hp⟩:∃p,ps[i]?=some p:=⟨_,List.getElem?_eq_getElem hlt⟩;obtain⟨lp,l⟩:=p
  have hd:ps.drop i=(lp,l)::ps.drop (i+1):=by
   rw[List.drop_eq_getElem_cons hlt];congr 1;rw[List.getElem?_eq_getElem hlt]at hp;exact Option.some.inj hp
  rw[hd,List.cons_append]at h;have gs:=h.get hsb;obtain⟨f,h⟩:=h;have hc:=Lj rows;have hlen:=Bo f rows 0;have hjl:=F4 l rows 0;obtain⟨a,gl1,hloop⟩:=WC (o:=o) (k:=k) (c0:=C1 f rows 0) (J:=Bk l rows 0) (q:=JM rows l) (lp:=lp) (hs:=(ps.drop (i+1)++AJ).map (Oq rows)) (sb:=sb) (nn:=ps.length) (i:=i) (by have:=dK rows l;omega) (by omega) (λp hp=>by have:=KF l rows 0 p hp;omega) (by omega) (by omega) h.hp;obtain⟨xx,hxx⟩:∃xx:Nat->Value,xx=up (up x [(12,(.pointer (some (Addr.mk sb (Nat.add 0 (Nat.mul i 1)) none)))),(13,(.pointer (some ⟨lp,0,none⟩))),(11,(.bool true))]) [(16,(.pointer (some (Addr.mk lp 1 none)))),(14,(.pointer (some (Addr.mk lp 0 none)))),(15,(.pointer (some (Addr.mk lp 0 none))))]:=⟨_,rfl⟩;obtain⟨x1,M1,hloop,hh⟩:=hloop xx;rw[show((0:Nat):Int)=0 from rfl]at hloop;have hs1:=h.settled hh
  have hb:∃x',AH Tryd.prog kp 1 (AL Tryd.prog kp 1 o k) (A6 Tryd.prog kp 1 (AL Tryd.prog kp 1 o k) 40) 40 k (BW Tryd.f19 0) (AA 40 (up x [(0, .pointer (some ⟨mp,0,none⟩)),(8, .slice (some ⟨sb,0,none⟩) ps.length ps.length),(9, .int .i64 (ps.length:Int)),(10, .int .i64 (i:Int))])) M=
    some (.normal,AA 40 (up x' [(0, .pointer (some ⟨mp,0,none⟩)),(8, .slice (some ⟨sb,0,none⟩) ps.length ps.length),(9, .int .i64 (ps.length:Int)),(10, .int .i64 ((i+1:Nat):Int))]),M1):=by
   apply Exists.intro;refine EZ ((B5 [3] Tryd.prog kp 1 _ (Y.lpOf Tryd.prog kp 1 (AL Tryd.prog kp 1 o k) 40) (λ_ _ _ _ _ _ _=>rfl) 40 k (BW Tryd.f19 0) (by kernel_rfl) _ M _).trans ?_);refine Eq.trans (YF ..) ?_
   rw[FO hlt,AG,Eh,GY hlt,AG,gs,AT,show Y.nthL (ps.map λx=>ptr x.1) (Nat.add 0 (Nat.mul i 1))=some (.pointer (some ⟨lp,0,none⟩))from by
    rw[show Nat.add 0 (Nat.mul i 1)=i from by show 0+i*1=i;omega,Y.nthL_eq,List.getElem?_map,hp];rfl,BM,gC]
   refine Eq.trans (BP _ _ _ (by kernel_rfl) _ _ _ _) ?_;refine Eq.trans (j7 ..) ?_;refine Eq.trans (jc ..) ?_;rw[gl1,AT,show Y.nthL [Value.int .i64 (JM rows l:Int), .slice a (Bk l rows 0).length (Bk l rows 0).length] 1=some (.slice a (Bk l rows 0).length (Bk l rows 0).length)from rfl,BM,Dw];rw[←hxx];refine Eq.trans (jd ..) ?_;refine Eq.trans (Ei _ _ (by kernel_rfl) _ _ _ _) ?_;rw[Y.lpOf_eq,rQ];simp only[Int.ofNat_eq_natCast];rw[hloop,Y.onE_some];refine Eq.trans (je ..) ?_;rw[Ca (by omega)];rfl
  obtain⟨x',hb⟩:=hb;obtain⟨x2,M2,h2,h3⟩:=Kh hl hk hps hsb d (i+1) (by omega) jj x' M1 (by omega) hs1;exact⟨x2,M2,(EE jj hb).trans h2,h3⟩
theorem KB{ps:List (Nat×Nat)}{sb:Nat}(ho:∀a m,o 19 a m=none)(hl:rows.length<=100000)(hk:100000+10<=k)(hps:ps.length<=100)(hsb:K sb=some (.cells true (ps.map λx=>ptr x.1)))(h:St K mp rows (ps++AJ) fr M):
  ∃M',AL Tryd.prog kp 1 o k 19 [ptr mp, .slice (some ⟨sb,0,none⟩) ps.length ps.length] M=some (Bl,M')/\St K mp rows AJ fr M':=by
 obtain⟨k,rfl⟩:∃k',k=k'+1:=⟨k - 1,by omega⟩
 obtain⟨x',M',hloop,h'⟩:=Kh (o:=o) (k:=k) hl (by omega) (by omega) hsb ps.length 0 (by omega) k (up Go.DI.x0 [(1,(.slice (some (Addr.mk sb 0 none)) ps.length ps.length))]) M (by omega) h
 rw[show((0:Nat):Int)=0 from rfl]at hloop
 refine⟨M',Bs 40 (ho _ _) rG rH n24 ?_ rN,h'⟩
 refine Eq.trans (YG ..) ?_
 rw[Y.lpOf_eq,Y.loopC_body]
 simp only[Int.ofNat_eq_natCast]
 rw[hloop,Y.onE_some]
 exact WD ..
end
theorem qT:Tryd.prog.funcs[12]?=some Tryd.f12:=by kernel_rfl
theorem qU:Tryd.f12.body=some (AN Tryd.f12):=by kernel_rfl
theorem qV:Tryd.f12.ntmps=15:=by kernel_rfl
theorem n17{a b c d:Value}:max [a,b,c,d].length Tryd.f12.ntmps=15:=by rw[qV];rfl
theorem qW:IP Tryd.prog 12 Bl=true:=by kernel_rfl
theorem qX:Tryd.prog.funcs[13]?=some Tryd.f13:=by kernel_rfl
theorem qY:Tryd.f13.body=some (AN Tryd.f13):=by kernel_rfl
theorem qZ:Tryd.f13.ntmps=19:=by kernel_rfl
theorem n18{a b c d e:Value}:max [a,b,c,d,e].length Tryd.f13.ntmps=19:=by rw[qZ];rfl
theorem q9:IP Tryd.prog 13 Bl=true:=by kernel_rfl
theorem qa:Tryd.prog.funcs[14]?=some Tryd.f14:=by kernel_rfl
theorem qb:Tryd.f14.body=some (AN Tryd.f14):=by kernel_rfl
theorem qc:Tryd.f14.ntmps=8:=by kernel_rfl
theorem n19{a:Value}:max [a].length Tryd.f14.ntmps=8:=by rw[qc];rfl
theorem qd:IP Tryd.prog 14 Bl=true:=by kernel_rfl
theorem qe:Tryd.prog.funcs[15]?=some Tryd.f15:=by kernel_rfl
theorem qf:Tryd.f15.body=some (AN Tryd.f15):=by kernel_rfl
theorem qg:Tryd.f15.ntmps=18:=by kernel_rfl
theorem n20{a b c d e:Value}:max [a,b,c,d,e].length Tryd.f15.ntmps=18:=by rw[qg];rfl
theorem qh:IP Tryd.prog 15 Bl=true:=by kernel_rfl
theorem qi:Tryd.prog.funcs[17]?=some Tryd.f17:=by kernel_rfl
theorem qj:Tryd.f17.body=some (AN Tryd.f17):=by kernel_rfl
theorem qk:Tryd.f17.ntmps=14:=by kernel_rfl
theorem n22{a b:Value}:max [a,b].length Tryd.f17.ntmps=14:=by rw[qk];rfl
theorem ql:IP Tryd.prog 17 Bl=true:=by kernel_rfl
theorem qm:Tryd.prog.funcs[26]?=some Tryd.f26:=by kernel_rfl
theorem qn:Tryd.f26.body=some (AN Tryd.f26):=by kernel_rfl
theorem qo:Tryd.f26.ntmps=15:=by kernel_rfl
theorem n36{a b c d:Value}:max [a,b,c,d].length Tryd.f26.ntmps=15:=by rw[qo];rfl
theorem qp:IP Tryd.prog 26 Bl=true:=by kernel_rfl
theorem qq:Tryd.prog.funcs[28]?=some Tryd.f28:=by kernel_rfl
theorem qt:Tryd.f28.body=some (AN Tryd.f28):=by kernel_rfl
theorem qu:Tryd.f28.ntmps=20:=by kernel_rfl
theorem n38{a b c:Value}:max [a,b,c].length Tryd.f28.ntmps=20:=by rw[qu];rfl
theorem qv:IP Tryd.prog 28 Bl=true:=by kernel_rfl
theorem my:Tryd.prog.funcs[33]?=some Tryd.f33:=by kernel_rfl
theorem nA:Tryd.f33.body=some (AN Tryd.f33):=by kernel_rfl
theorem qw:Tryd.f33.ntmps=25:=by kernel_rfl
theorem sr{a b c d:Value}:max [a,b,c,d].length Tryd.f33.ntmps=25:=by rw[qw];rfl
theorem nB:IP Tryd.prog 33 Bl=true:=by kernel_rfl
theorem qx:Tryd.prog.funcs[34]?=some Tryd.f34:=by kernel_rfl
theorem qy:Tryd.f34.body=some (AN Tryd.f34):=by kernel_rfl
theorem qz:Tryd.f34.ntmps=9:=by kernel_rfl
theorem n44{a b:Value}:max [a,b].length Tryd.f34.ntmps=9:=by rw[qz];rfl
theorem rB:IP Tryd.prog 34 Bl=true:=by kernel_rfl
theorem step{α:Type}{df:FQ}{f:FuncId}{a:List Value}{m m':Mem}{v:Value}{q:Value->Mem->Option α}{r:Option α}(h:df f a m=some (v,m'))(hq:q v m'=r):Y.cfOf df f a m q=r:=by
 rw[gA,h,Lc,hq]
theorem GQ{α:Type}(b:Bool)(x y:α):cond (cond b false true) x y=cond b y x:=nr (by cases b<;>rfl)
inductive Kg:Value->Value->B1->Prop
 |num {op d n:Int}:(op=11/\d=2)\/(op=11/\d=3)\/(op=5/\d=2)->Kg (DY 1 op 0 true false) (EV ⟨0,d,0,0,n⟩) (DE op d n)
 |regs {op d s:Int}:(op=11/\d=6/\s=1)\/(op=11/\d=2/\s=8)\/(op=5/\d=2/\s=3)->Kg (DY 1 op 0 true true) (EV ⟨0,d,s,0,0⟩) (Ba op d s)
 |low {n:Int}:Kg (DY 1 11 0 false false) (EV ⟨0,0,0,0,n⟩) (G3 n)
 |exit:Kg (DY 9 0 0 false false) (EV ⟨0,0,0,0,0⟩) DC
 |const {n:Int}:Kg (DY 10 0 0 false false) (EV ⟨0,3,0,0,n⟩) ⟨24,3,0,0,n⟩
 |load {z d s n:Int}:(z=4/\d=8/\s=6)\/(z=4/\d=2/\s=6)\/(z=8/\d=7/\s=1)\/((z=1\/z=2\/z=4\/z=8)/\d=2/\s=7)->Kg (DY 3 0 z false false) (EV ⟨0,d,s,n,0⟩) ⟨97+8*Xz z,d,s,n,0⟩
 |jif {op d n:Int}:(op=3/\d=8)\/(op=5/\d=2)\/(op=10/\d=2)\/(op=2/\d=2)->Kg (DY 6 op 0 true false) (EV ⟨0,d,0,0,n⟩) (Cw op d n)
 |jifR {op:Int}:op=10\/op=2->Kg (DY 6 op 0 true true) (EV ⟨0,2,3,0,0⟩) (Ec op)
 |goto:Kg (DY 7 0 0 false false) (EV ⟨0,0,0,0,0⟩) Bm
 |swap {z:Int}:z=2\/z=4\/z=8->Kg (DY 2 0 z false false) (EV ⟨0,2,0,0,0⟩) (C0 z)
def Vc(z:Int):Prop:=z=1\/z=2\/z=4\/z=8
def Pure(o:DT)(f:FuncId)(a:List Value)(v:Value):Prop:=∀k M,1<=k->M.top->1<=M.size->M.get 0= .cells false gl->∃M',AL Tryd.prog kp 1 o k f a M=some (v,M')/\Ext M M'
structure GX(o:DT):Prop where
 off:∀f,f∉ [7,24,30,31,49]->∀a m,o f a m=none
 mkP:∀{w i x},Kg w i x->∃e:Int,Pure o 49 [w,i] (.tuple ⟨[EV x, .int .i64 e]⟩)
 most:∀{z},Vc z->Pure o 30 [.int .i64 z] (.int .u64 (BX z))
 small:∀n:Int,Pure o 31 [.int .u64 n] (.bool (decide (n<2147483648)))
 full2:∀{z},Vc z->Pure o 24 [.int .i64 z] (.int .u64 (BX z))
theorem GX.makes{o:DT}(h:GX o){k:Nat}(hk:1<=k){w i:Value}{x:B1}(hm:Kg w i x):Lh o k w i x:=by
 obtain⟨e,hp⟩:=h.mkP hm
 intro M ht h1 h0
 obtain⟨M',c,x⟩:=hp k M hk ht h1 h0
 exact⟨e,M',c,x⟩
section
variable{K:CU}{mp:Nat}{rows:List A9}{AJ:List (Nat×Nat)}{fr:Nat->Prop}{M:Mem}
variable{o:DT}{k:Nat}
def HU(o:DT)(k:Nat)(f:FuncId)(a:List Value)(M:Mem)(Q:Mem->Prop):Prop:=∃M',AL Tryd.prog kp 1 o k f a M=some (Bl,M')/\Q M'
theorem HU.to{f:FuncId}{a:List Value}{Q Q':Mem->Prop}(h:HU o k f a M Q)(hq:∀m,Q m->Q' m):HU o k f a M Q':=by
 obtain⟨M',c,h⟩:=h
 exact⟨M',c,hq _ h⟩
theorem KD{wc wo ws:Int}{ww wr:Bool}{i x:B1}(hO:GX o)(hk:2<=k)(hl:rows.length<=100000)(hm:Kg (DY wc wo ws ww wr) (EV i) x)(h:St K mp rows AJ fr M):
  HU o k 25 [ptr mp,DY wc wo ws ww wr,EV i] M (St K mp (rows++ [ins x 0]) AJ fr):=by
 obtain⟨k,rfl⟩:∃k',k=k'+1:=⟨k - 1,by omega⟩
 exact jY (hO.off 25 (by decide)) hl h (hO.makes (by omega) hm)
theorem Oo{wc wo ws:Int}{ww wr:Bool}{i x:B1}{lp l:Nat}(hO:GX o)(hk:3<=k)(hl:rows.length<=100000)(hm:Kg (DY wc wo ws ww wr) (EV i) x)(hlp:(lp,l)∈AJ)(h:St K mp rows AJ fr M):
  HU o k 27 [ptr mp,DY wc wo ws ww wr,EV i,ptr lp] M (St K mp (rows++ [ins x l]) AJ fr):=by
 obtain⟨k,rfl⟩:∃k',k=k'+2:=⟨k - 2,by omega⟩
 exact dD hlp (hO.off 25 (by decide)) (hO.off 27 (by decide)) hl h (hO.makes (by omega) hm)
theorem Om{op d n:Int}(hO:GX o)(hk:3<=k)(hl:rows.length<=100000)(hm:(op=11/\d=2)\/(op=11/\d=3)\/(op=5/\d=2))(h:St K mp rows AJ fr M):
  HU o k 26 [ptr mp, .int .i64 op, .int .u8 d, .int .i32 n] M (St K mp (rows++ [ins (DE op d n) 0]) AJ fr):=by
 obtain⟨k,rfl⟩:∃k',k=k'+1:=⟨k - 1,by omega⟩
 obtain⟨M1,c1,h1⟩:=KD (k:=k) hO (by omega) hl (Kg.num (n:=n) hm) h
 refine⟨M1,Bs 15 (hO.off 26 (by decide) _ _) qm qn n36 ?_ qp,h1⟩
 refine Eq.trans (nC ..) ?_
 refine step c1 ?_
 rfl
theorem Oa{op d s:Int}(hO:GX o)(hk:3<=k)(hl:rows.length<=100000)(hm:(op=11/\d=6/\s=1)\/(op=11/\d=2/\s=8)\/(op=5/\d=2/\s=3))(h:St K mp rows AJ fr M):
  HU o k 12 [ptr mp, .int .i64 op, .int .u8 d, .int .u8 s] M (St K mp (rows++ [ins (Ba op d s) 0]) AJ fr):=by
 obtain⟨k,rfl⟩:∃k',k=k'+1:=⟨k - 1,by omega⟩
 obtain⟨M1,c1,h1⟩:=KD (k:=k) hO (by omega) hl (Kg.regs hm) h
 refine⟨M1,Bs 15 (hO.off 12 (by decide) _ _) qT qU n17 ?_ qW,h1⟩
 refine Eq.trans (jZ ..) ?_
 refine step c1 ?_
 rfl
theorem Ho{z d s n:Int}(hO:GX o)(hk:3<=k)(hl:rows.length<=100000)(hm:(z=4/\d=8/\s=6)\/(z=4/\d=2/\s=6)\/(z=8/\d=7/\s=1)\/((z=1\/z=2\/z=4\/z=8)/\d=2/\s=7))(h:St K mp rows AJ fr M):
  HU o k 13 [ptr mp, .int .i64 z, .int .u8 d, .int .u8 s, .int .i64 n] M (St K mp (rows++ [ins (BG z d s n) 0]) AJ fr):=by
 obtain⟨k,rfl⟩:∃k',k=k'+1:=⟨k - 1,by omega⟩
 obtain⟨M1,c1,h1⟩:=KD (k:=k) hO (by omega) hl (Kg.load (n:=GZ n) hm) h
 refine⟨M1,Bs 19 (hO.off 13 (by decide) _ _) qX qY n18 ?_ q9,h1⟩
 refine Eq.trans (j0 ..) ?_
 refine step c1 ?_
 rfl
theorem LM{op d n:Int}{lp l:Nat}(hO:GX o)(hk:4<=k)(hl:rows.length<=100000)(hm:(op=3/\d=8)\/(op=5/\d=2)\/(op=10/\d=2)\/(op=2/\d=2))(hlp:(lp,l)∈AJ)(h:St K mp rows AJ fr M):
  HU o k 15 [ptr mp, .int .i64 op, .int .u8 d, .int .i32 n,ptr lp] M (St K mp (rows++ [ins (Cw op d n) l]) AJ fr):=by
 obtain⟨k,rfl⟩:∃k',k=k'+1:=⟨k - 1,by omega⟩
 obtain⟨M1,c1,h1⟩:=Oo (k:=k) hO (by omega) hl (Kg.jif (n:=n) hm) hlp h
 refine⟨M1,Bs 18 (hO.off 15 (by decide) _ _) qe qf n20 ?_ qh,h1⟩
 refine Eq.trans (j1 ..) ?_
 refine step c1 ?_
 rfl
theorem JR{lp l:Nat}(hO:GX o)(hk:4<=k)(hl:rows.length<=100000)(hlp:(lp,l)∈AJ)(h:St K mp rows AJ fr M):
  HU o k 34 [ptr mp,ptr lp] M (St K mp (rows++ [ins Bm l]) AJ fr):=by
 obtain⟨k,rfl⟩:∃k',k=k'+1:=⟨k - 1,by omega⟩
 obtain⟨M1,c1,h1⟩:=Oo (k:=k) hO (by omega) hl Kg.goto hlp h
 refine⟨M1,Bs 9 (hO.off 34 (by decide) _ _) qx qy n44 ?_ rB,h1⟩
 refine Eq.trans (j2 ..) ?_
 refine step c1 ?_
 rfl
theorem Ts{v:Int}(hO:GX o)(hk:4<=k)(hl:rows.length+1<=100000)(h:St K mp rows AJ fr M):
  HU o k 17 [ptr mp, .int .u32 v] M (St K mp (rows++EX v) AJ fr):=by
 obtain⟨k,rfl⟩:∃k',k=k'+1:=⟨k - 1,by omega⟩
 obtain⟨M1,c1,h1⟩:=KD (k:=k) hO (by omega) (by omega) (Kg.low (n:=Jq v)) h
 obtain⟨M2,c2,h2⟩:=KD (k:=k) hO (by omega) (by rw[List.length_append];exact hl) Kg.exit h1
 rw[List.append_assoc]at h2
 refine⟨M2,Bs 14 (hO.off 17 (by decide) _ _) qi qj n22 ?_ ql,h2⟩
 refine Eq.trans (j3 ..) ?_
 refine step c1 ?_
 refine step c2 ?_
 rfl
theorem G1(hO:GX o)(hk:5<=k)(hl:rows.length+2<=100000)(h:St K mp rows AJ fr M):
  HU o k 14 [ptr mp] M (St K mp (rows++AZ) AJ fr):=by
 obtain⟨k,rfl⟩:∃k',k=k'+1:=⟨k - 1,by omega⟩
 obtain⟨M1,c1,h1⟩:=Om (k:=k) (op:=11) (d:=2) (n:=0) hO (by omega) (by omega) (by simp) h
 obtain⟨M2,c2,h2⟩:=Om (k:=k) (op:=11) (d:=3) (n:=0) hO (by omega) (by rw[List.length_append];simp;omega) (by simp) h1
 obtain⟨M3,c3,h3⟩:=Ho (k:=k) (z:=4) (d:=8) (s:=6) (n:=0) hO (by omega) (by simp;omega) (by simp) h2
 rw[List.append_assoc,List.append_assoc]at h3
 refine⟨M3,Bs 8 (hO.off 14 (by decide) _ _) qa qb n19 ?_ qd,h3⟩
 refine Eq.trans (YA ..) ?_
 refine step c1 ?_
 refine step c2 ?_
 refine step c3 ?_
 rfl
theorem Hq{n:Int}(h:0<=n)(h2:n<2147483648):IntKind.wrap .i32 n=n:=by
 simp[IntKind.wrap,IntKind.bits,IntKind.signed]
 omega
theorem SJ{n:Int}:Vy n=Jq (n % 4294967296):=by
 simp[Vy,Jq,IntKind.wrap,IntKind.bits,IntKind.signed]
theorem YB{n:Int}(h:0<=n)(h2:n<18446744073709551616):Vy (Int.fdiv n 4294967296)=Jq (n / 4294967296):=by
 rw[Int.fdiv_eq_ediv_of_nonneg _ (by omega)]
 have:n / 4294967296 % 4294967296=n / 4294967296:=Int.emod_eq_of_lt (by omega) (by omega)
 rw[SJ,this]
theorem UP{op n:Int}{lp l:Nat}(hO:GX o)(hk:6<=k)(hl:rows.length+3<=100000)(hm:op=10\/op=2)(hn:0<=n)(hn2:n<18446744073709551616)(hlp:(lp,l)∈AJ)(h:St K mp rows AJ fr M):
  HU o k 33 [ptr mp, .int .i64 op, .int .u64 n,ptr lp] M (St K mp (rows++D6 op n l) AJ fr):=by
 obtain⟨k,rfl⟩:∃k',k=k'+1:=⟨k - 1,by omega⟩
 obtain⟨M0,c0,x0⟩:=hO.small n k M (by omega) h.top (by have:=h.lt h.glb;omega) (h.get h.glb)
 have h0:=h.ext x0
 by_cases hs:n<2147483648
 ·obtain⟨M1,c1,h1⟩:=LM (k:=k) (op:=op) (d:=2) (n:=n) hO (by omega) (by omega) (by rcases hm with rfl|rfl<;>simp) hlp h0;refine⟨M1,Bs 25 (hO.off 33 (by decide) _ _) my nA sr ?_ nB,by rw[D6,if_pos hs];exact h1⟩;refine Eq.trans (YC ..) ?_;refine step c0 ?_;rw[HS,decide_eq_true hs,AG,Hq hn hs];refine step c1 ?_;rfl
 ·obtain⟨M1,c1,h1⟩:=QF (k:=k - 2) (d:=3) (n:=n) (hO.off 25 (by decide)) (hO.off 32 (by decide)) (by omega) h0 (hO.makes (by omega) Kg.const);obtain⟨k',rfl⟩:∃k',k=k'+2:=⟨k - 2,by omega⟩;obtain⟨M2,c2,h2⟩:=Oo (k:=k'+2) hO (by omega) (by simp;omega) (Kg.jifR hm) hlp h1;refine⟨M2,Bs 25 (hO.off 33 (by decide) _ _) my nA sr ?_ nB,?_⟩
  ·refine Eq.trans (YC ..) ?_;refine step c0 ?_;rw[HS,decide_eq_false hs,BH];refine step c1 ?_;refine step c2 ?_;rfl
  ·rw[D6,if_neg hs];rw[List.append_assoc,SJ,YB hn hn2]at h2;exact h2
theorem Ol{n:Int}{lp l a:Nat}(hO:GX o)(hk:100000+20<=k)(hl:rows.length+3<=100000)(hlp:(lp,l)∈AJ)(ha:fr a)(h:St K mp rows AJ fr M):
  HU o k 28 [ptr mp, .int .i64 n,ptr lp] M (St K mp (rows++C9 a n l) AJ (λj=>fr j/\j≠a)):=by
 obtain⟨k,rfl⟩:∃k',k=k'+1:=⟨k - 1,by omega⟩
 have h0:=h.label ha
 obtain⟨M1,c1,h1⟩:=LM (k:=k) (op:=3) (d:=8) (n:=Jq n) hO (by omega) (by omega) (by simp) (List.mem_cons_self ..) h0
 obtain⟨M2,c2,h2⟩:=JR (k:=k) hO (by omega) (by simp;omega) (List.mem_cons_of_mem _ hlp) h1
 have hb:=h2.box (.cells true [ptr M.size])
 obtain⟨M3,c3,h3⟩:=LO (k:=k) (hO.off 18 (by decide)) (by omega) (by simp;omega) hb.1 (BQ ..)
 have h3:=h3.weak h.glb hb.2
 have hb2:=h3.box (.cells true [ptr M.size])
 obtain⟨M4,c4,h4⟩:=KB (k:=k) (ps:= [(M.size,a)]) (hO.off 19 (by decide)) (by simp;omega) (by omega) (by simp) (BQ ..) hb2.1
 have h4:=h4.weak h.glb hb2.2
 rw[List.append_assoc,List.append_assoc]at h4
 refine⟨M4,Bs 20 (hO.off 28 (by decide) _ _) qq qt n38 ?_ qv,h4⟩
 refine Eq.trans (j4 ..) ?_
 refine step c1 ?_
 refine step c2 ?_
 refine step c3 ?_
 refine step c4 ?_
 rfl
end
set_option maxHeartbeats 4000000
variable{α:Type}(x:Nat->Value)(cf:Y.CF α)(L:Y.LK α)(k:Nat)(m:Mem)
noncomputable def HO:Code:=D7 [0,9] (AN Tryd.f11)
noncomputable def Tz:List Oper:=CE 0 (AN Tryd.f11)
noncomputable def Xa:List Oper:=CE 9 (AN Tryd.f11)
noncomputable def Pt:Code:=D7 [5,8] (BW Tryd.f8 0)
noncomputable def Nb:List Oper:=CE 5 (AN Tryd.f8)
noncomputable def Tm:List Oper:=CE 8 (AN Tryd.f8)
noncomputable def V8:Code:=D7 [10] (BW Tryd.f8 1)
noncomputable def Js:List Oper:=CE 10 (AN Tryd.f8)
theorem Xb(g:Bool)(ki p s ma lo hi:Int)(q:Value->Mem->Option α):Y.codeF HO Tryd.prog kp 1 (Y.cfT Tryd.prog cf) L 93 k (AA 93 (CM [.agg ⟨[.bool g,.int .i64 ki,.int .i64 p,.int .i64 s,.int .u64 ma,.int .u64 lo,.int .u64 hi]⟩])) m (Y.retF Tryd.prog Tryd.f11 q)=
 (L (Y.codeF (Y.loopC HO 0) Tryd.prog kp 1 (Y.cfT Tryd.prog cf) L 93 k) (Y.loopC HO 0) k (AA 93 (up Go.DI.x0 [(0,.agg ⟨[.bool g,.int .i64 ki,.int .i64 p,.int .i64 s,.int .u64 ma,.int .u64 lo,.int .u64 hi]⟩)])) m (Y.kont Tryd.prog kp 1 (Y.cfT Tryd.prog cf) L 93 k HO 0 (Y.retF Tryd.prog Tryd.f11 q))):=by kernel_rfl
theorem iY(g:Bool)(ki p s ma lo hi:Int)(q:AE->Mem->Option α):Y.opsF (Tz) Tryd.prog kp 1 (Y.cfT Tryd.prog cf) 93 Tz (AA 93 (up x [(0,.agg ⟨[.bool g,.int .i64 ki,.int .i64 p,.int .i64 s,.int .u64 ma,.int .u64 lo,.int .u64 hi]⟩)])) m q=
 (q (AA 93 (up (up x [(0,.agg ⟨[.bool g,.int .i64 ki,.int .i64 p,.int .i64 s,.int .u64 ma,.int .u64 lo,.int .u64 hi]⟩)]) [(1,.pointer (some ⟨Mem.size m,0,none⟩)),(2,.bool false)])) (Mem.push m (.cells true [.bool g,.int .i64 ki,.int .i64 p,.int .i64 s,.int .u64 ma,.int .u64 lo,.int .u64 hi]))):=by kernel_rfl
theorem Ld(tb:Nat)(bb:Bool)(q:Value->Mem->Option α):Y.kont Tryd.prog kp 1 (Y.cfT Tryd.prog cf) L 93 k HO 0 (Y.retF Tryd.prog Tryd.f11 q) .normal (AA 93 (up x [(1,.pointer (some ⟨tb,0,none⟩)),(2,.bool bb)])) m=
 (Y.cellsOf (Mem.get m tb) (λ_ Ah=>Option.elim (Y.nthL Ah 5) none (λAi=>Y.asInt Ai (λAj F=>cond (Y.kEq .u64 Aj) (Y.cellsOf (Mem.get m tb) (λ_ Ak=>Option.elim (Y.nthL Ak 6) none (λAl=>Y.asInt Al (λAm G=>cond (Y.kEq .u64 Am) (cond (Y.ltF G F) (q (.bool false) m) (Y.cellsOf (Mem.get m tb) (λ_ An=>Option.elim (Y.nthL An 1) none (λAo=>Y.asInt Ao (λAp H=>cond (Y.kEq .i64 Ap) (cond (Y.eqF H 1) (Y.cellsOf (Mem.get m tb) (λ_ Aa=>Option.elim (Y.nthL Aa 2) none (λAb=>Y.asInt Ab (λAc D=>cond (Y.kEq .i64 Ac) (cond (Y.eqF D 0) (Y.cellsOf (Mem.get m tb) (λ_ T=>Option.elim (Y.nthL T 3) none (λU=>Y.asInt U (λV C=>cond (Y.kEq .i64 V) (cond (Y.eqF C 0) (Y.cellsOf (Mem.get m tb) (λ_ I=>Option.elim (Y.nthL I 4) none (λJ=>Y.asInt J (λN A=>cond (Y.kEq .u64 N) (cond (Y.eqF A 0) (Y.cellsOf (Mem.get m tb) (λ_ O=>Option.elim (Y.nthL O 6) none (λQ=>Y.asInt Q (λR B=>cond (Y.kEq .u64 R) (cond (Y.ltF B 4294967296) (q (.bool true) m) (q (.bool false) m)) none) none))) (q (.bool false) m)) none) none))) (q (.bool false) m)) none) none))) (q (.bool false) m)) none) none))) (Y.cellsOf (Mem.get m tb) (λ_ Aa=>Option.elim (Y.nthL Aa 1) none (λAb=>Y.asInt Ab (λAc D=>cond (Y.kEq .i64 Ac) (cond (Y.eqF D 2) (Y.cellsOf (Mem.get m tb) (λ_ T=>Option.elim (Y.nthL T 2) none (λU=>Y.asInt U (λV C=>cond (Y.kEq .i64 V) (cond (Y.eqF C 0) (Y.cellsOf (Mem.get m tb) (λ_ I=>Option.elim (Y.nthL I 3) none (λJ=>Y.asInt J (λN A=>cond (Y.kEq .i64 N) (cond (Y.eqF A 0) (Y.cellsOf (Mem.get m tb) (λ_ O=>Option.elim (Y.nthL O 4) none (λQ=>Y.asInt Q (λR B=>cond (Y.kEq .u64 R) (cond (Y.eqF B 0) (Y.cellsOf (Mem.get m tb) (λ_ W=>Option.elim (Y.nthL W 6) none (λX=>Y.asInt X (λZ E=>cond (Y.kEq .u64 Z) (cond (Y.ltF E 4294967296) (q (.bool true) m) (q (.bool false) m)) none) none))) (q (.bool false) m)) none) none))) (q (.bool false) m)) none) none))) (q (.bool false) m)) none) none))) (Y.cellsOf (Mem.get m tb) (λ_ T=>Option.elim (Y.nthL T 1) none (λU=>Y.asInt U (λV C=>cond (Y.kEq .i64 V) (cond (cond (Y.eqF C 3) false true) (Y.cellsOf (Mem.get m tb) (λ_ I=>Option.elim (Y.nthL I 1) none (λJ=>Y.asInt J (λN A=>cond (Y.kEq .i64 N) (cond (cond (Y.eqF A 4) false true) (q (.bool false) m) (Y.cellsOf (Mem.get m tb) (λ_ O=>Option.elim (Y.nthL O 3) none (λQ=>Y.asInt Q (λR B=>cond (Y.kEq .i64 R) (cond (cond (Y.eqF B 1) false true) (Y.cellsOf (Mem.get m tb) (λ_ W=>Option.elim (Y.nthL W 3) none (λX=>Y.asInt X (λZ E=>cond (Y.kEq .i64 Z) (cond (cond (Y.eqF E 2) false true) (Y.cellsOf (Mem.get m tb) (λ_ Ad=>Option.elim (Y.nthL Ad 3) none (λAe=>Y.asInt Ae (λAf S=>cond (Y.kEq .i64 Af) (cond (cond (Y.eqF S 4) false true) (Y.cellsOf (Mem.get m tb) (λ_ Aq=>Option.elim (Y.nthL Aq 3) none (λAr=>Y.asInt Ar (λAs Ag=>cond (Y.kEq .i64 As) (cond (cond (Y.eqF Ag 8) false true) (q (.bool false) m) (L (Y.codeF (Y.loopC HO 1) Tryd.prog kp 1 (Y.cfT Tryd.prog cf) L 93 k) (Y.loopC HO 1) k (AA 93 (up (up x [(16,.bool false),(48,.bool true),(8,.bool false),(40,.bool true),(56,.int .i64 S),(4,.pointer (some ⟨tb,5,none⟩)),(36,.bool false),(52,.bool true),(12,.bool false),(44,.bool false),(60,.pointer (some ⟨tb,3,none⟩)),(50,.pointer (some ⟨tb,3,none⟩)),(10,.pointer (some ⟨tb,1,none⟩)),(42,.int .i64 A),(58,.bool true),(6,.pointer (some ⟨tb,6,none⟩)),(38,.int .i64 C),(54,.bool true),(14,.pointer (some ⟨tb,1,none⟩)),(46,.pointer (some ⟨tb,3,none⟩)),(62,.bool false),(17,.bool false),(49,.bool true),(9,.bool false),(41,.pointer (some ⟨tb,1,none⟩)),(57,.bool true),(5,.int .u64 F),(37,.pointer (some ⟨tb,1,none⟩)),(53,.bool true),(13,.bool false),(45,.bool false),(61,.int .i64 Ag),(3,.bool false),(51,.int .i64 E),(11,.int .i64 H),(43,.bool false),(59,.bool true),(7,.int .u64 G),(39,.bool true),(55,.pointer (some ⟨tb,3,none⟩)),(15,.int .i64 D),(47,.int .i64 B),(63,.bool false)]) [(1,.pointer (some ⟨tb,0,none⟩)),(2,.bool bb)])) m (Y.kont Tryd.prog kp 1 (Y.cfT Tryd.prog cf) L 93 k HO 1 (Y.retF Tryd.prog Tryd.f11 q)))) none) none))) (L (Y.codeF (Y.loopC HO 1) Tryd.prog kp 1 (Y.cfT Tryd.prog cf) L 93 k) (Y.loopC HO 1) k (AA 93 (up (up x [(16,.bool false),(48,.bool true),(8,.bool false),(40,.bool true),(56,.int .i64 S),(4,.pointer (some ⟨tb,5,none⟩)),(36,.bool false),(52,.bool true),(12,.bool false),(44,.bool false),(60,.tuple ⟨[]⟩),(50,.pointer (some ⟨tb,3,none⟩)),(10,.pointer (some ⟨tb,1,none⟩)),(42,.int .i64 A),(58,.bool false),(6,.pointer (some ⟨tb,6,none⟩)),(38,.int .i64 C),(54,.bool true),(14,.pointer (some ⟨tb,1,none⟩)),(46,.pointer (some ⟨tb,3,none⟩)),(62,.tuple ⟨[]⟩),(17,.bool false),(49,.bool true),(9,.bool false),(41,.pointer (some ⟨tb,1,none⟩)),(57,.bool false),(5,.int .u64 F),(37,.pointer (some ⟨tb,1,none⟩)),(53,.bool true),(13,.bool false),(45,.bool false),(61,.tuple ⟨[]⟩),(3,.bool false),(51,.int .i64 E),(11,.int .i64 H),(43,.bool false),(59,.bool false),(7,.int .u64 G),(39,.bool true),(55,.pointer (some ⟨tb,3,none⟩)),(15,.int .i64 D),(47,.int .i64 B),(63,.bool false)]) [(1,.pointer (some ⟨tb,0,none⟩)),(2,.bool bb)])) m (Y.kont Tryd.prog kp 1 (Y.cfT Tryd.prog cf) L 93 k HO 1 (Y.retF Tryd.prog Tryd.f11 q)))) none) none))) (L (Y.codeF (Y.loopC HO 1) Tryd.prog kp 1 (Y.cfT Tryd.prog cf) L 93 k) (Y.loopC HO 1) k (AA 93 (up (up x [(16,.bool false),(48,.bool true),(8,.bool false),(40,.bool true),(56,.tuple ⟨[]⟩),(4,.pointer (some ⟨tb,5,none⟩)),(36,.bool false),(52,.bool false),(12,.bool false),(44,.bool false),(60,.tuple ⟨[]⟩),(50,.pointer (some ⟨tb,3,none⟩)),(10,.pointer (some ⟨tb,1,none⟩)),(42,.int .i64 A),(58,.bool false),(6,.pointer (some ⟨tb,6,none⟩)),(38,.int .i64 C),(54,.bool false),(14,.pointer (some ⟨tb,1,none⟩)),(46,.pointer (some ⟨tb,3,none⟩)),(62,.tuple ⟨[]⟩),(17,.bool false),(49,.bool true),(9,.bool false),(41,.pointer (some ⟨tb,1,none⟩)),(57,.tuple ⟨[]⟩),(5,.int .u64 F),(37,.pointer (some ⟨tb,1,none⟩)),(53,.bool false),(13,.bool false),(45,.bool false),(61,.tuple ⟨[]⟩),(3,.bool false),(51,.int .i64 E),(11,.int .i64 H),(43,.bool false),(59,.bool false),(7,.int .u64 G),(39,.bool true),(55,.tuple ⟨[]⟩),(15,.int .i64 D),(47,.int .i64 B),(63,.bool false)]) [(1,.pointer (some ⟨tb,0,none⟩)),(2,.bool bb)])) m (Y.kont Tryd.prog kp 1 (Y.cfT Tryd.prog cf) L 93 k HO 1 (Y.retF Tryd.prog Tryd.f11 q)))) none) none))) (L (Y.codeF (Y.loopC HO 1) Tryd.prog kp 1 (Y.cfT Tryd.prog cf) L 93 k) (Y.loopC HO 1) k (AA 93 (up (up x [(16,.bool false),(48,.bool false),(8,.bool false),(40,.bool true),(56,.tuple ⟨[]⟩),(4,.pointer (some ⟨tb,5,none⟩)),(36,.bool false),(52,.tuple ⟨[]⟩),(12,.bool false),(44,.bool false),(60,.tuple ⟨[]⟩),(50,.tuple ⟨[]⟩),(10,.pointer (some ⟨tb,1,none⟩)),(42,.int .i64 A),(58,.bool false),(6,.pointer (some ⟨tb,6,none⟩)),(38,.int .i64 C),(54,.bool false),(14,.pointer (some ⟨tb,1,none⟩)),(46,.pointer (some ⟨tb,3,none⟩)),(62,.tuple ⟨[]⟩),(17,.bool false),(49,.bool false),(9,.bool false),(41,.pointer (some ⟨tb,1,none⟩)),(57,.tuple ⟨[]⟩),(5,.int .u64 F),(37,.pointer (some ⟨tb,1,none⟩)),(53,.bool false),(13,.bool false),(45,.bool false),(61,.tuple ⟨[]⟩),(3,.bool false),(51,.tuple ⟨[]⟩),(11,.int .i64 H),(43,.bool false),(59,.bool false),(7,.int .u64 G),(39,.bool true),(55,.tuple ⟨[]⟩),(15,.int .i64 D),(47,.int .i64 B),(63,.bool false)]) [(1,.pointer (some ⟨tb,0,none⟩)),(2,.bool bb)])) m (Y.kont Tryd.prog kp 1 (Y.cfT Tryd.prog cf) L 93 k HO 1 (Y.retF Tryd.prog Tryd.f11 q)))) none) none)))) none) none))) (Y.cellsOf (Mem.get m tb) (λ_ I=>Option.elim (Y.nthL I 3) none (λJ=>Y.asInt J (λN A=>cond (Y.kEq .i64 N) (cond (cond (Y.eqF A 1) false true) (Y.cellsOf (Mem.get m tb) (λ_ O=>Option.elim (Y.nthL O 3) none (λQ=>Y.asInt Q (λR B=>cond (Y.kEq .i64 R) (cond (cond (Y.eqF B 2) false true) (Y.cellsOf (Mem.get m tb) (λ_ W=>Option.elim (Y.nthL W 3) none (λX=>Y.asInt X (λZ E=>cond (Y.kEq .i64 Z) (cond (cond (Y.eqF E 4) false true) (Y.cellsOf (Mem.get m tb) (λ_ Ad=>Option.elim (Y.nthL Ad 3) none (λAe=>Y.asInt Ae (λAf S=>cond (Y.kEq .i64 Af) (cond (cond (Y.eqF S 8) false true) (q (.bool false) m) (L (Y.codeF (Y.loopC HO 1) Tryd.prog kp 1 (Y.cfT Tryd.prog cf) L 93 k) (Y.loopC HO 1) k (AA 93 (up (up x [(16,.bool false),(48,.bool true),(8,.bool false),(40,.bool false),(56,.int .i64 E),(4,.pointer (some ⟨tb,5,none⟩)),(36,.bool false),(52,.bool true),(12,.bool false),(44,.bool false),(60,.pointer (some ⟨tb,3,none⟩)),(50,.pointer (some ⟨tb,3,none⟩)),(10,.pointer (some ⟨tb,1,none⟩)),(42,.tuple ⟨[]⟩),(58,.bool true),(6,.pointer (some ⟨tb,6,none⟩)),(38,.int .i64 C),(54,.bool true),(14,.pointer (some ⟨tb,1,none⟩)),(46,.pointer (some ⟨tb,3,none⟩)),(62,.bool false),(17,.bool false),(49,.bool true),(9,.bool false),(41,.tuple ⟨[]⟩),(57,.bool true),(5,.int .u64 F),(37,.pointer (some ⟨tb,1,none⟩)),(53,.bool true),(13,.bool false),(45,.bool false),(61,.int .i64 S),(3,.bool false),(51,.int .i64 B),(11,.int .i64 H),(43,.tuple ⟨[]⟩),(59,.bool true),(7,.int .u64 G),(39,.bool false),(55,.pointer (some ⟨tb,3,none⟩)),(15,.int .i64 D),(47,.int .i64 A),(63,.bool false)]) [(1,.pointer (some ⟨tb,0,none⟩)),(2,.bool bb)])) m (Y.kont Tryd.prog kp 1 (Y.cfT Tryd.prog cf) L 93 k HO 1 (Y.retF Tryd.prog Tryd.f11 q)))) none) none))) (L (Y.codeF (Y.loopC HO 1) Tryd.prog kp 1 (Y.cfT Tryd.prog cf) L 93 k) (Y.loopC HO 1) k (AA 93 (up (up x [(16,.bool false),(48,.bool true),(8,.bool false),(40,.bool false),(56,.int .i64 E),(4,.pointer (some ⟨tb,5,none⟩)),(36,.bool false),(52,.bool true),(12,.bool false),(44,.bool false),(60,.tuple ⟨[]⟩),(50,.pointer (some ⟨tb,3,none⟩)),(10,.pointer (some ⟨tb,1,none⟩)),(42,.tuple ⟨[]⟩),(58,.bool false),(6,.pointer (some ⟨tb,6,none⟩)),(38,.int .i64 C),(54,.bool true),(14,.pointer (some ⟨tb,1,none⟩)),(46,.pointer (some ⟨tb,3,none⟩)),(62,.tuple ⟨[]⟩),(17,.bool false),(49,.bool true),(9,.bool false),(41,.tuple ⟨[]⟩),(57,.bool false),(5,.int .u64 F),(37,.pointer (some ⟨tb,1,none⟩)),(53,.bool true),(13,.bool false),(45,.bool false),(61,.tuple ⟨[]⟩),(3,.bool false),(51,.int .i64 B),(11,.int .i64 H),(43,.tuple ⟨[]⟩),(59,.bool false),(7,.int .u64 G),(39,.bool false),(55,.pointer (some ⟨tb,3,none⟩)),(15,.int .i64 D),(47,.int .i64 A),(63,.bool false)]) [(1,.pointer (some ⟨tb,0,none⟩)),(2,.bool bb)])) m (Y.kont Tryd.prog kp 1 (Y.cfT Tryd.prog cf) L 93 k HO 1 (Y.retF Tryd.prog Tryd.f11 q)))) none) none))) (L (Y.codeF (Y.loopC HO 1) Tryd.prog kp 1 (Y.cfT Tryd.prog cf) L 93 k) (Y.loopC HO 1) k (AA 93 (up (up x [(16,.bool false),(48,.bool true),(8,.bool false),(40,.bool false),(56,.tuple ⟨[]⟩),(4,.pointer (some ⟨tb,5,none⟩)),(36,.bool false),(52,.bool false),(12,.bool false),(44,.bool false),(60,.tuple ⟨[]⟩),(50,.pointer (some ⟨tb,3,none⟩)),(10,.pointer (some ⟨tb,1,none⟩)),(42,.tuple ⟨[]⟩),(58,.bool false),(6,.pointer (some ⟨tb,6,none⟩)),(38,.int .i64 C),(54,.bool false),(14,.pointer (some ⟨tb,1,none⟩)),(46,.pointer (some ⟨tb,3,none⟩)),(62,.tuple ⟨[]⟩),(17,.bool false),(49,.bool true),(9,.bool false),(41,.tuple ⟨[]⟩),(57,.tuple ⟨[]⟩),(5,.int .u64 F),(37,.pointer (some ⟨tb,1,none⟩)),(53,.bool false),(13,.bool false),(45,.bool false),(61,.tuple ⟨[]⟩),(3,.bool false),(51,.int .i64 B),(11,.int .i64 H),(43,.tuple ⟨[]⟩),(59,.bool false),(7,.int .u64 G),(39,.bool false),(55,.tuple ⟨[]⟩),(15,.int .i64 D),(47,.int .i64 A),(63,.bool false)]) [(1,.pointer (some ⟨tb,0,none⟩)),(2,.bool bb)])) m (Y.kont Tryd.prog kp 1 (Y.cfT Tryd.prog cf) L 93 k HO 1 (Y.retF Tryd.prog Tryd.f11 q)))) none) none))) (L (Y.codeF (Y.loopC HO 1) Tryd.prog kp 1 (Y.cfT Tryd.prog cf) L 93 k) (Y.loopC HO 1) k (AA 93 (up (up x [(16,.bool false),(48,.bool false),(8,.bool false),(40,.bool false),(56,.tuple ⟨[]⟩),(4,.pointer (some ⟨tb,5,none⟩)),(36,.bool false),(52,.tuple ⟨[]⟩),(12,.bool false),(44,.bool false),(60,.tuple ⟨[]⟩),(50,.tuple ⟨[]⟩),(10,.pointer (some ⟨tb,1,none⟩)),(42,.tuple ⟨[]⟩),(58,.bool false),(6,.pointer (some ⟨tb,6,none⟩)),(38,.int .i64 C),(54,.bool false),(14,.pointer (some ⟨tb,1,none⟩)),(46,.pointer (some ⟨tb,3,none⟩)),(62,.tuple ⟨[]⟩),(17,.bool false),(49,.bool false),(9,.bool false),(41,.tuple ⟨[]⟩),(57,.tuple ⟨[]⟩),(5,.int .u64 F),(37,.pointer (some ⟨tb,1,none⟩)),(53,.bool false),(13,.bool false),(45,.bool false),(61,.tuple ⟨[]⟩),(3,.bool false),(51,.tuple ⟨[]⟩),(11,.int .i64 H),(43,.tuple ⟨[]⟩),(59,.bool false),(7,.int .u64 G),(39,.bool false),(55,.tuple ⟨[]⟩),(15,.int .i64 D),(47,.int .i64 A),(63,.bool false)]) [(1,.pointer (some ⟨tb,0,none⟩)),(2,.bool bb)])) m (Y.kont Tryd.prog kp 1 (Y.cfT Tryd.prog cf) L 93 k HO 1 (Y.retF Tryd.prog Tryd.f11 q)))) none) none)))) none) none)))) none) none)))) none) none)))) none) none))) none) none))):=by kernel_rfl
theorem Jv(tb:Nat)(bb:Bool)(q:AE->Mem->Option α):Y.drawF Tryd.prog kp 1 (Y.cfT Tryd.prog cf) 93 Xa (AA 93 (up x [(1,.pointer (some ⟨tb,0,none⟩)),(2,.bool bb)])) m q=
 (Y.cellsOf (Mem.get m tb) (λ_ Ab=>Option.elim (Y.nthL Ab 2) none (λo9=>Y.asInt o9 (λAc A=>cond (Y.kEq .i64 Ac) (cond (cond (Y.ltF A 0) false true) (Y.cellsOf (Mem.get m tb) (λ_ Ad=>Option.elim (Y.nthL Ad 2) none (λAe=>Y.asInt Ae (λAf E=>cond (Y.kEq .i64 Af) (cond (cond (Y.ltF 255 E) false true) (Y.cellsOf (Mem.get m tb) (λ_ Ag=>Option.elim (Y.nthL Ag 4) none (λAh=>Y.asInt Ah (λAi F=>cond (Y.kEq .u64 Ai) (cond (cond (Y.ltF F 1) false true) (Y.cellsOf (Mem.get m tb) (λ_ Aj=>Option.elim (Y.nthL Aj 4) none (λAk=>Y.asInt Ak (λAl B=>cond (Y.kEq .u64 Al) (Y.cellsOf (Mem.get m tb) (λ_ Am=>Option.elim (Y.nthL Am 3) none (λAn=>Y.asInt An (λAo G=>cond (Y.kEq .i64 Ao) (cf 24 [.int .i64 G] m (λAp C=>Y.asInt Ap (λAq H=>cond (Y.kEq .u64 Aq) (cond (cond (Y.ltF H B) false true) (Y.cellsOf (Mem.get C tb) (λ_ J=>Option.elim (Y.nthL J 6) none (λN=>Y.asInt N (λO D=>cond (Y.kEq .u64 O) (Y.cellsOf (Mem.get C tb) (λ_ Ar=>Option.elim (Y.nthL Ar 3) none (λAs=>Y.asInt As (λAt Q=>cond (Y.kEq .i64 At) (cf 24 [.int .i64 Q] C (λAu I=>Y.asInt Au (λAv R=>cond (Y.kEq .u64 Av) (cond (cond (Y.ltF R D) false true) (Y.cellsOf (Mem.get C tb) (λ_ S=>Option.elim (Y.nthL S 4) none (λT=>Y.asInt T (λU V=>cond (Y.kEq .u64 U) (cond (Y.eqF V B) (Y.cellsOf (Mem.get I tb) (λ_ W=>Option.elim (Y.nthL W 6) none (λX=>Y.asInt X (λZ Aa=>cond (Y.kEq .u64 Z) (cond (Y.eqF Aa D) (q (AA 93 (up (up x [(64,.pointer (some ⟨tb,2,none⟩)),(80,.pointer (some ⟨tb,3,none⟩)),(72,.bool true),(88,.pointer (some ⟨tb,3,none⟩)),(68,.pointer (some ⟨tb,2,none⟩)),(84,.bool true),(76,.bool true),(92,.bool true),(66,.bool true),(82,.int .u64 H),(74,.int .u64 F),(90,.int .u64 R),(70,.bool true),(86,.pointer (some ⟨tb,6,none⟩)),(78,.pointer (some ⟨tb,4,none⟩)),(65,.int .i64 A),(81,.int .i64 G),(73,.pointer (some ⟨tb,4,none⟩)),(89,.int .i64 Q),(69,.int .i64 E),(85,.bool true),(77,.bool true),(67,.bool true),(83,.bool true),(75,.bool true),(91,.bool true),(71,.bool true),(87,.int .u64 D),(79,.int .u64 B)]) [(1,.pointer (some ⟨tb,0,none⟩)),(2,.bool true)])) I) none) none) none))) none) none) none))) (Y.cellsOf (Mem.get C tb) (λ_ S=>Option.elim (Y.nthL S 4) none (λT=>Y.asInt T (λU V=>cond (Y.kEq .u64 U) (cond (Y.eqF V B) (Y.cellsOf (Mem.get I tb) (λ_ W=>Option.elim (Y.nthL W 6) none (λX=>Y.asInt X (λZ Aa=>cond (Y.kEq .u64 Z) (cond (Y.eqF Aa D) (q (AA 93 (up (up x [(64,.pointer (some ⟨tb,2,none⟩)),(80,.pointer (some ⟨tb,3,none⟩)),(72,.bool true),(88,.pointer (some ⟨tb,3,none⟩)),(68,.pointer (some ⟨tb,2,none⟩)),(84,.bool true),(76,.bool true),(92,.bool false),(66,.bool true),(82,.int .u64 H),(74,.int .u64 F),(90,.int .u64 R),(70,.bool true),(86,.pointer (some ⟨tb,6,none⟩)),(78,.pointer (some ⟨tb,4,none⟩)),(65,.int .i64 A),(81,.int .i64 G),(73,.pointer (some ⟨tb,4,none⟩)),(89,.int .i64 Q),(69,.int .i64 E),(85,.bool true),(77,.bool true),(67,.bool true),(83,.bool true),(75,.bool true),(91,.bool false),(71,.bool true),(87,.int .u64 D),(79,.int .u64 B)]) [(1,.pointer (some ⟨tb,0,none⟩)),(2,.bool false)])) I) none) none) none))) none) none) none)))) none) none)) none) none))) none) none))) (Y.cellsOf (Mem.get C tb) (λ_ J=>Option.elim (Y.nthL J 4) none (λN=>Y.asInt N (λO D=>cond (Y.kEq .u64 O) (cond (Y.eqF D B) (q (AA 93 (up (up x [(64,.pointer (some ⟨tb,2,none⟩)),(80,.pointer (some ⟨tb,3,none⟩)),(72,.bool true),(88,.tuple ⟨[]⟩),(68,.pointer (some ⟨tb,2,none⟩)),(84,.bool false),(76,.bool true),(92,.bool false),(66,.bool true),(82,.int .u64 H),(74,.int .u64 F),(90,.tuple ⟨[]⟩),(70,.bool true),(86,.tuple ⟨[]⟩),(78,.pointer (some ⟨tb,4,none⟩)),(65,.int .i64 A),(81,.int .i64 G),(73,.pointer (some ⟨tb,4,none⟩)),(89,.tuple ⟨[]⟩),(69,.int .i64 E),(85,.bool false),(77,.bool true),(67,.bool true),(83,.bool false),(75,.bool true),(91,.tuple ⟨[]⟩),(71,.bool true),(87,.tuple ⟨[]⟩),(79,.int .u64 B)]) [(1,.pointer (some ⟨tb,0,none⟩)),(2,.bool false)])) C) none) none) none)))) none) none)) none) none))) none) none))) (q (AA 93 (up (up x [(64,.pointer (some ⟨tb,2,none⟩)),(80,.tuple ⟨[]⟩),(72,.bool true),(88,.tuple ⟨[]⟩),(68,.pointer (some ⟨tb,2,none⟩)),(84,.bool false),(76,.bool false),(92,.bool false),(66,.bool true),(82,.tuple ⟨[]⟩),(74,.int .u64 F),(90,.tuple ⟨[]⟩),(70,.bool true),(86,.tuple ⟨[]⟩),(78,.tuple ⟨[]⟩),(65,.int .i64 A),(81,.tuple ⟨[]⟩),(73,.pointer (some ⟨tb,4,none⟩)),(89,.tuple ⟨[]⟩),(69,.int .i64 E),(85,.bool false),(77,.bool false),(67,.bool true),(83,.tuple ⟨[]⟩),(75,.bool false),(91,.tuple ⟨[]⟩),(71,.bool true),(87,.tuple ⟨[]⟩),(79,.tuple ⟨[]⟩)]) [(1,.pointer (some ⟨tb,0,none⟩)),(2,.bool false)])) m)) none) none))) (q (AA 93 (up (up x [(64,.pointer (some ⟨tb,2,none⟩)),(80,.tuple ⟨[]⟩),(72,.bool false),(88,.tuple ⟨[]⟩),(68,.pointer (some ⟨tb,2,none⟩)),(84,.bool false),(76,.bool false),(92,.bool false),(66,.bool true),(82,.tuple ⟨[]⟩),(74,.tuple ⟨[]⟩),(90,.tuple ⟨[]⟩),(70,.bool false),(86,.tuple ⟨[]⟩),(78,.tuple ⟨[]⟩),(65,.int .i64 A),(81,.tuple ⟨[]⟩),(73,.tuple ⟨[]⟩),(89,.tuple ⟨[]⟩),(69,.int .i64 E),(85,.bool false),(77,.bool false),(67,.bool true),(83,.tuple ⟨[]⟩),(75,.tuple ⟨[]⟩),(91,.tuple ⟨[]⟩),(71,.bool false),(87,.tuple ⟨[]⟩),(79,.tuple ⟨[]⟩)]) [(1,.pointer (some ⟨tb,0,none⟩)),(2,.bool false)])) m)) none) none))) (q (AA 93 (up (up x [(64,.pointer (some ⟨tb,2,none⟩)),(80,.tuple ⟨[]⟩),(72,.bool false),(88,.tuple ⟨[]⟩),(68,.tuple ⟨[]⟩),(84,.bool false),(76,.bool false),(92,.bool false),(66,.bool false),(82,.tuple ⟨[]⟩),(74,.tuple ⟨[]⟩),(90,.tuple ⟨[]⟩),(70,.tuple ⟨[]⟩),(86,.tuple ⟨[]⟩),(78,.tuple ⟨[]⟩),(65,.int .i64 A),(81,.tuple ⟨[]⟩),(73,.tuple ⟨[]⟩),(89,.tuple ⟨[]⟩),(69,.tuple ⟨[]⟩),(85,.bool false),(77,.bool false),(67,.bool false),(83,.tuple ⟨[]⟩),(75,.tuple ⟨[]⟩),(91,.tuple ⟨[]⟩),(71,.bool false),(87,.tuple ⟨[]⟩),(79,.tuple ⟨[]⟩)]) [(1,.pointer (some ⟨tb,0,none⟩)),(2,.bool false)])) m)) none) none))):=by kernel_rfl
theorem Jw(tb:Nat)(bb:Bool)(q:Value->Mem->Option α):Y.kont Tryd.prog kp 1 (Y.cfT Tryd.prog cf) L 93 k HO 1 (Y.retF Tryd.prog Tryd.f11 q) .normal (AA 93 (up x [(1,.pointer (some ⟨tb,0,none⟩)),(2,.bool bb)])) m=
 (q (.bool bb) m):=by kernel_rfl
theorem Pv(ra:Option Addr)(rn rc:Nat)(q:Value->Mem->Option α):Y.codeF (AN Tryd.f8) Tryd.prog kp 1 (Y.cfT Tryd.prog cf) L 36 k (AA 36 (CM [.slice ra rn rc])) m (Y.retF Tryd.prog Tryd.f8 q)=
 (cond (Y.ltF 32 (Int.ofNat rn)) (q (.tuple ⟨[.int .i64 0,.int .i64 3]⟩) m) (L (λt m q=>Y.codeF (Y.loopC (AN Tryd.f8) 0) Tryd.prog kp 1 (Y.cfT Tryd.prog cf) L 36 k t m q) (Y.loopC (AN Tryd.f8) 0) k (AA 36 (up (up Go.DI.x0 [(0,.slice ra rn rc),(8,.slice ra rn rc),(2,.int .i64 0),(10,.bool false),(9,.int .i64 (Int.ofNat rn)),(3,.int .i64 0)]) [(11,.slice ra rn rc),(12,.int .i64 (Int.ofNat rn)),(13,.int .i64 0)])) m (Y.kont Tryd.prog kp 1 (Y.cfT Tryd.prog cf) L 36 k (AN Tryd.f8) 0 (Y.retF Tryd.prog Tryd.f8 q)))):=by kernel_rfl
theorem L4(rb:Nat)(rp:Option Nat)(rn rc:Nat)(i:Int)(q:Y.ExK α):Y.codeF Pt Tryd.prog kp 1 (Y.cfT Tryd.prog cf) L 36 k (AA 36 (up x [(11,.slice (some ⟨rb,0,rp⟩) rn rc),(12,.int .i64 rn),(13,.int .i64 i)])) m q=
 (cond (Y.ltF i (Int.ofNat rn)) (L (Y.codeF (Y.loopC Pt 0) Tryd.prog kp 1 (Y.cfT Tryd.prog cf) L 36 k) (Y.loopC Pt 0) k (AA 36 (up (up x [(14,.bool true)]) [(11,.slice (some (Addr.mk rb 0 rp)) rn rc),(12,.int .i64 (Int.ofNat rn)),(13,.int .i64 i)])) m (Y.kont Tryd.prog kp 1 (Y.cfT Tryd.prog cf) L 36 k Pt 0 q)) (q (Ex.exit 0) (AA 36 (up (up x [(14,.bool false)]) [(11,.slice (some (Addr.mk rb 0 rp)) rn rc),(12,.int .i64 (Int.ofNat rn)),(13,.int .i64 i)])) m)):=by kernel_rfl
theorem O5(rb:Nat)(rp:Option Nat)(rn rc:Nat)(i:Int)(q:AE->Mem->Option α):Y.opsF (List.take 5 Nb) Tryd.prog kp 1 (Y.cfT Tryd.prog cf) 36 Nb (AA 36 (up x [(11,.slice (some ⟨rb,0,rp⟩) rn rc),(12,.int .i64 rn),(13,.int .i64 i)])) m q=
 (Y.onNat i (λA=>cond (Nat.blt A rn) (Y.cellsOf (Mem.get m rb) (λ_ B=>cond (Nat.ble (Nat.add (Nat.add 0 (Nat.mul A 2)) 2) (Y.lenLF B)) (q (AA 36 (up (up x [(16,.pointer (some ⟨rb,Nat.add 0 (Nat.mul A 2),none⟩)),(15,.int .i64 i)]) [(4,.int .i64 i),(5,.pointer (some ⟨Mem.size m,0,none⟩)),(11,.slice (some (Addr.mk rb 0 rp)) rn rc),(12,.int .i64 (Int.ofNat rn)),(13,.int .i64 i),(17,.agg ⟨Y.subL B (Nat.add 0 (Nat.mul A 2)) 2⟩)])) (Mem.push m (.cells true [.slice none 0 0,.int .u32 0]))) none)) none)):=by kernel_rfl
theorem O6(xb:Nat)(rb:Nat)(rp:Option Nat)(rn rc:Nat)(i:Int)(q:Y.ExK α):Y.kont Tryd.prog kp 1 (Y.cfT Tryd.prog cf) L 36 k Pt 0 q .normal (AA 36 (up x [(4,.int .i64 i),(5,.pointer (some ⟨xb,0,none⟩)),(11,.slice (some ⟨rb,0,rp⟩) rn rc),(12,.int .i64 rn),(13,.int .i64 i)])) m=
 (Y.cellsOf (Mem.get m xb) (λ_ D=>Option.elim (Y.nthL D 0) none (λE=>Y.asSl E (λB A C=>cond (Y.ltF 8 (Int.ofNat A)) (q .ret (AA 36 (up (up x [(20,.int .i64 (Int.ofNat A)),(2,.int .i64 i),(18,.pointer (some ⟨xb,0,none⟩)),(22,.int .i64 i),(21,.bool true),(3,.int .i64 3),(19,.slice B A C)]) [(4,.int .i64 i),(5,.pointer (some ⟨xb,0,none⟩)),(11,.slice (some (Addr.mk rb 0 rp)) rn rc),(12,.int .i64 (Int.ofNat rn)),(13,.int .i64 i)])) m) (L (Y.codeF (Y.loopC Pt 1) Tryd.prog kp 1 (Y.cfT Tryd.prog cf) L 36 k) (Y.loopC Pt 1) k (AA 36 (up (up x [(20,.int .i64 (Int.ofNat A)),(18,.pointer (some ⟨xb,0,none⟩)),(21,.bool false),(19,.slice B A C)]) [(4,.int .i64 i),(5,.pointer (some ⟨xb,0,none⟩)),(11,.slice (some (Addr.mk rb 0 rp)) rn rc),(12,.int .i64 (Int.ofNat rn)),(13,.int .i64 i)])) m (Y.kont Tryd.prog kp 1 (Y.cfT Tryd.prog cf) L 36 k Pt 1 q))) none))):=by kernel_rfl
theorem SA(xb:Nat)(rb:Nat)(rp:Option Nat)(rn rc:Nat)(i:Int)(q:AE->Mem->Option α):Y.opsF (Tm) Tryd.prog kp 1 (Y.cfT Tryd.prog cf) 36 Tm (AA 36 (up x [(4,.int .i64 i),(5,.pointer (some ⟨xb,0,none⟩)),(11,.slice (some ⟨rb,0,rp⟩) rn rc),(12,.int .i64 rn),(13,.int .i64 i)])) m q=
 (Y.cellsOf (Mem.get m xb) (λ_ B=>Option.elim (Y.nthL B 0) none (λC=>Y.asSl C (λD A E=>q (AA 36 (up (up x [(23,.pointer (some ⟨xb,0,none⟩))]) [(4,.int .i64 i),(5,.pointer (some ⟨xb,0,none⟩)),(11,.slice (some (Addr.mk rb 0 rp)) rn rc),(12,.int .i64 (Int.ofNat rn)),(13,.int .i64 i),(24,.slice D A E),(25,.int .i64 (Int.ofNat A)),(26,.int .i64 0)])) m) none))):=by kernel_rfl
theorem SB(ta:Option Addr)(tn tc:Nat)(j:Int)(xb:Nat)(rb:Nat)(rp:Option Nat)(rn rc:Nat)(i:Int)(q:Y.ExK α):Y.kont Tryd.prog kp 1 (Y.cfT Tryd.prog cf) L 36 k Pt 1 q .normal (AA 36 (up x [(4,.int .i64 i),(5,.pointer (some ⟨xb,0,none⟩)),(11,.slice (some ⟨rb,0,rp⟩) rn rc),(12,.int .i64 rn),(13,.int .i64 i),(24,.slice ta tn tc),(25,.int .i64 tn),(26,.int .i64 j)])) m=
 (L (Y.codeF (Y.loopC Pt 2) Tryd.prog kp 1 (Y.cfT Tryd.prog cf) L 36 k) (Y.loopC Pt 2) k (AA 36 (up x [(4,.int .i64 i),(5,.pointer (some ⟨xb,0,none⟩)),(11,.slice (some (Addr.mk rb 0 rp)) rn rc),(12,.int .i64 (Int.ofNat rn)),(13,.int .i64 i),(24,.slice ta tn tc),(25,.int .i64 (Int.ofNat tn)),(26,.int .i64 j)])) m (Y.kont Tryd.prog kp 1 (Y.cfT Tryd.prog cf) L 36 k Pt 2 q)):=by kernel_rfl
theorem X3(ta:Option Addr)(tn tc:Nat)(j:Int)(xb:Nat)(rb:Nat)(rp:Option Nat)(rn rc:Nat)(i:Int)(q:Y.ExK α):Y.kont Tryd.prog kp 1 (Y.cfT Tryd.prog cf) L 36 k Pt 2 q (.exit 2) (AA 36 (up x [(4,.int .i64 i),(5,.pointer (some ⟨xb,0,none⟩)),(11,.slice (some ⟨rb,0,rp⟩) rn rc),(12,.int .i64 rn),(13,.int .i64 i),(24,.slice ta tn tc),(25,.int .i64 tn),(26,.int .i64 j)])) m=
 (q .normal (AA 36 (up (up x [(24,.slice ta tn tc),(4,.int .i64 i),(26,.int .i64 j),(25,.int .i64 (Int.ofNat tn)),(5,.pointer (some ⟨xb,0,none⟩)),(35,.int .i64 (IntKind.wrap .i64 (Int.add i 1)))]) [(11,.slice (some (Addr.mk rb 0 rp)) rn rc),(12,.int .i64 (Int.ofNat rn)),(13,.int .i64 (IntKind.wrap .i64 (Int.add i 1)))])) m):=by kernel_rfl
theorem iN(w2 w3:Value)(q:Y.ExK α):Y.kont Tryd.prog kp 1 (Y.cfT Tryd.prog cf) L 36 k Pt 2 q .ret (AA 36 (up x [(2,w2),(3,w3)])) m=
 (q .ret (AA 36 (up x [(2,w2),(3,w3)])) m):=by kernel_rfl
theorem O4(tb tn tc:Nat)(tp:Option Nat)(j:Int)(xb:Nat)(rb:Nat)(rp:Option Nat)(rn rc:Nat)(i:Int)(q:Y.ExK α):Y.codeF V8 Tryd.prog kp 1 (Y.cfT Tryd.prog cf) L 36 k (AA 36 (up x [(4,.int .i64 i),(5,.pointer (some ⟨xb,0,none⟩)),(11,.slice (some ⟨rb,0,rp⟩) rn rc),(12,.int .i64 rn),(13,.int .i64 i),(24,.slice (some ⟨tb,0,tp⟩) tn tc),(25,.int .i64 tn),(26,.int .i64 j)])) m q=
 (cond (Y.ltF j (Int.ofNat tn)) (L (Y.codeF (Y.loopC V8 0) Tryd.prog kp 1 (Y.cfT Tryd.prog cf) L 36 k) (Y.loopC V8 0) k (AA 36 (up (up x [(27,.bool true)]) [(4,.int .i64 i),(5,.pointer (some ⟨xb,0,none⟩)),(11,.slice (some (Addr.mk rb 0 rp)) rn rc),(12,.int .i64 (Int.ofNat rn)),(13,.int .i64 i),(24,.slice (some (Addr.mk tb 0 tp)) tn tc),(25,.int .i64 (Int.ofNat tn)),(26,.int .i64 j)])) m (Y.kont Tryd.prog kp 1 (Y.cfT Tryd.prog cf) L 36 k V8 0 q)) (q (Ex.exit 2) (AA 36 (up (up x [(27,.bool false)]) [(4,.int .i64 i),(5,.pointer (some ⟨xb,0,none⟩)),(11,.slice (some (Addr.mk rb 0 rp)) rn rc),(12,.int .i64 (Int.ofNat rn)),(13,.int .i64 i),(24,.slice (some (Addr.mk tb 0 tp)) tn tc),(25,.int .i64 (Int.ofNat tn)),(26,.int .i64 j)])) m)):=by kernel_rfl
theorem Ry(tb tn tc:Nat)(tp:Option Nat)(j:Int)(xb:Nat)(rb:Nat)(rp:Option Nat)(rn rc:Nat)(i:Int)(q:AE->Mem->Option α):Y.opsF (List.take 3 Js) Tryd.prog kp 1 (Y.cfT Tryd.prog cf) 36 Js (AA 36 (up x [(4,.int .i64 i),(5,.pointer (some ⟨xb,0,none⟩)),(11,.slice (some ⟨rb,0,rp⟩) rn rc),(12,.int .i64 rn),(13,.int .i64 i),(24,.slice (some ⟨tb,0,tp⟩) tn tc),(25,.int .i64 tn),(26,.int .i64 j)])) m q=
 (Y.onNat j (λA=>cond (Nat.blt A tn) (Y.cellsOf (Mem.get m tb) (λ_ B=>cond (Nat.ble (Nat.add (Nat.add 0 (Nat.mul A 7)) 7) (Y.lenLF B)) (q (AA 36 (up (up x [(28,.pointer (some ⟨tb,Nat.add 0 (Nat.mul A 7),none⟩))]) [(4,.int .i64 i),(5,.pointer (some ⟨xb,0,none⟩)),(7,.pointer (some ⟨Mem.size m,0,none⟩)),(11,.slice (some (Addr.mk rb 0 rp)) rn rc),(12,.int .i64 (Int.ofNat rn)),(13,.int .i64 i),(24,.slice (some (Addr.mk tb 0 tp)) tn tc),(25,.int .i64 (Int.ofNat tn)),(26,.int .i64 j),(29,.agg ⟨Y.subL B (Nat.add 0 (Nat.mul A 7)) 7⟩)])) (Mem.push m (.cells true [.bool false,.int .i64 0,.int .i64 0,.int .i64 0,.int .u64 0,.int .u64 0,.int .u64 0]))) none)) none)):=by kernel_rfl
theorem Rz(yb:Nat)(tb tn tc:Nat)(tp:Option Nat)(j:Int)(xb:Nat)(rb:Nat)(rp:Option Nat)(rn rc:Nat)(i:Int)(q:Y.ExK α):Y.kont Tryd.prog kp 1 (Y.cfT Tryd.prog cf) L 36 k V8 0 q .normal (AA 36 (up x [(4,.int .i64 i),(5,.pointer (some ⟨xb,0,none⟩)),(7,.pointer (some ⟨yb,0,none⟩)),(11,.slice (some ⟨rb,0,rp⟩) rn rc),(12,.int .i64 rn),(13,.int .i64 i),(24,.slice (some ⟨tb,0,tp⟩) tn tc),(25,.int .i64 tn),(26,.int .i64 j)])) m=
 (Y.cellsOf (Mem.get m yb) (λ_ A=>cond (Nat.ble 7 (Y.lenLF A)) (cf 11 [.agg ⟨Y.subL A 0 7⟩] m (λC B=>Y.asBo C (λD=>cond D (q .normal (AA 36 (up (up x [(32,.bool false),(34,.int .i64 (IntKind.wrap .i64 (Int.add j 1))),(30,.agg ⟨Y.subL A 0 7⟩),(7,.pointer (some ⟨yb,0,none⟩)),(31,.bool true)]) [(4,.int .i64 i),(5,.pointer (some ⟨xb,0,none⟩)),(11,.slice (some (Addr.mk rb 0 rp)) rn rc),(12,.int .i64 (Int.ofNat rn)),(13,.int .i64 i),(24,.slice (some (Addr.mk tb 0 tp)) tn tc),(25,.int .i64 (Int.ofNat tn)),(26,.int .i64 (IntKind.wrap .i64 (Int.add j 1)))])) B) (q .ret (AA 36 (up (up x [(32,.bool true),(2,.int .i64 i),(30,.agg ⟨Y.subL A 0 7⟩),(33,.int .i64 i),(3,.int .i64 1),(7,.pointer (some ⟨yb,0,none⟩)),(31,.bool false)]) [(4,.int .i64 i),(5,.pointer (some ⟨xb,0,none⟩)),(11,.slice (some (Addr.mk rb 0 rp)) rn rc),(12,.int .i64 (Int.ofNat rn)),(13,.int .i64 i),(24,.slice (some (Addr.mk tb 0 tp)) tn tc),(25,.int .i64 (Int.ofNat tn)),(26,.int .i64 j)])) B)) none)) none)):=by kernel_rfl
theorem Va(u w:Int)(q:Value->Mem->Option α):Y.kont Tryd.prog kp 1 (Y.cfT Tryd.prog cf) L 36 k (AN Tryd.f8) 0 (Y.retF Tryd.prog Tryd.f8 q) .ret (AA 36 (up x [(2,.int .i64 u),(3,.int .i64 w)])) m=
 (q (.tuple ⟨[.int .i64 u,.int .i64 w]⟩) m):=by kernel_rfl
theorem V9(w11 w12 w13:Value)(q:Value->Mem->Option α):Y.kont Tryd.prog kp 1 (Y.cfT Tryd.prog cf) L 36 k (AN Tryd.f8) 0 (Y.retF Tryd.prog Tryd.f8 q) (.exit 0) (AA 36 (up x [(11,w11),(12,w12),(13,w13)])) m=
 (q (.tuple ⟨[.int .i64 0,.int .i64 0]⟩) m):=by kernel_rfl
end
end Go.Proofs.YtgjflcgmieiafaaDoor
namespace Go.Cmp
def F0(t:A7):Bool:=
 if t.hi<t.lo then false
 else if t.kind=1\/t.kind=2 then decide (t.pos=0/\t.size=0/\t.mask=0/\t.hi<4294967296)
 else if t.kind≠3/\t.kind≠4 then false
 else if t.size≠1/\t.size≠2/\t.size≠4/\t.size≠8 then false
 else decide (0<=t.pos/\t.pos<=255/\1<=t.mask/\t.mask<=BX t.size/\t.hi<=BX t.size)
end Go.Cmp
namespace Go.Proofs.YtgjflcgmieiafaaDoor
open Go Go.DI Go.DI.Kit Go.Proofs Go.Cmp
noncomputable section
theorem Tt(t:A7):Y.nthL (AR t) 1=some (.int .i64 t.kind):=nr rfl
theorem Tu(t:A7):Y.nthL (AR t) 2=some (.int .i64 t.pos):=nr rfl
theorem Tv(t:A7):Y.nthL (AR t) 3=some (.int .i64 t.size):=nr rfl
theorem Tw(t:A7):Y.nthL (AR t) 4=some (.int .u64 t.mask):=nr rfl
theorem Tx(t:A7):Y.nthL (AR t) 5=some (.int .u64 t.lo):=nr rfl
theorem Ty(t:A7):Y.nthL (AR t) 6=some (.int .u64 t.hi):=nr rfl
theorem pq:Tryd.prog.funcs[11]?=some Tryd.f11:=by kernel_rfl
theorem pr:Tryd.f11.body=some (AN Tryd.f11):=by kernel_rfl
theorem pt:Tryd.f11.ntmps=93:=by kernel_rfl
theorem n16{a:Value}:max [a].length Tryd.f11.ntmps=93:=by rw[pt];rfl
theorem pw{b:Bool}:IP Tryd.prog 11 (.bool b)=true:=by kernel_rfl
theorem X9{α:Type}(cf:Y.CF α)(L:Y.LK α)(k:Nat)(t:AE)(m:Mem)(q:Y.ExK α):Y.codeF (Y.loopC HO 0) Tryd.prog kp 1 (Y.cfT Tryd.prog cf) L 93 k t m q=Y.opsF Tz Tryd.prog kp 1 (Y.cfT Tryd.prog cf) 93 Tz t m λt m=>q .normal t m:=by kernel_rfl
theorem iX:Y.loopC HO 1=Code.region 9 ⟨Xa⟩ true:=by kernel_rfl
theorem G2{α:Type}(cf:Y.CF α)(L:Y.LK α)(k:Nat)(t:AE)(m:Mem)(q:Y.ExK α):Y.codeF (Y.loopC HO 1) Tryd.prog kp 1 (Y.cfT Tryd.prog cf) L 93 k t m q=Y.drawF Tryd.prog kp 1 (Y.cfT Tryd.prog cf) 93 Xa t m λt m=>q .normal t m:=by
 rw[iX];rfl
abbrev px(o:DT)(k j:Nat)(fr:AE)(M:Mem):Option (Value×Mem):=
 GR (Y.lpOf Tryd.prog kp 1 (AL Tryd.prog kp 1 o k) 93) (λt m q=>Y.codeF (Y.loopC HO j) Tryd.prog kp 1 (Y.cfT Tryd.prog (Y.cfOf (AL Tryd.prog kp 1 o k))) (GR (Y.lpOf Tryd.prog kp 1 (AL Tryd.prog kp 1 o k) 93)) 93 k t m q) (Y.loopC HO j) k fr M
  (Y.kont Tryd.prog kp 1 (Y.cfT Tryd.prog (Y.cfOf (AL Tryd.prog kp 1 o k))) (GR (Y.lpOf Tryd.prog kp 1 (AL Tryd.prog kp 1 o k) 93)) 93 k HO j (Y.retF Tryd.prog Tryd.f11 λv m=>some (v,m)))
abbrev py(o:DT)(k j:Nat)(fr:AE)(M:Mem):Option (Value×Mem):=
 Y.kont Tryd.prog kp 1 (Y.cfT Tryd.prog (Y.cfOf (AL Tryd.prog kp 1 o k))) (GR (Y.lpOf Tryd.prog kp 1 (AL Tryd.prog kp 1 o k) 93)) 93 k HO j (Y.retF Tryd.prog Tryd.f11 λv m=>some (v,m)) .normal fr M
section
variable{M:Mem}{o:DT}{k tb:Nat}{t:A7}
theorem bt(hO:GX o)(hk:5<=k)(hM:M.top/\1<=M.size/\M.get 0= .cells false gl)(gb:M.get tb= .cells true (AR t))(hlt:tb<M.size)(hz:Vc t.size):
  ∃M',(∀(x:Nat->Value) (bb:Bool),px o k 1 (AA 93 (up x [(1, .pointer (some ⟨tb,0,none⟩)),(2, .bool bb)])) M=some (.bool (decide (0<=t.pos/\t.pos<=255/\1<=t.mask/\t.mask<=BX t.size/\t.hi<=BX t.size)),M'))/\Ext M M':=by
 obtain⟨M2,c1,x2⟩:=hO.full2 hz k M (by omega) hM.1 hM.2.1 hM.2.2
 have s2:=x2.size
 obtain⟨M3,c2,x3⟩:=hO.full2 hz k M2 (by omega) (x2.top hM.1) (by omega) ((x2.get 0 (by omega)).trans hM.2.2)
 have g2:M2.get tb= .cells true (AR t):=(x2.get tb hlt).trans gb
 have g3:M3.get tb= .cells true (AR t):=(x3.get tb (by omega)).trans g2
 have x23:=x2.trans x3
 by_cases p0:0<=t.pos
 ·by_cases p1:t.pos<=255
  ·by_cases p2:1<=t.mask
   ·by_cases p3:t.mask<=BX t.size
    ·by_cases p4:t.hi<=BX t.size
     ·refine⟨M3,λx bb=>?_,x23⟩;rw[decide_eq_true (show(0<=t.pos/\t.pos<=255/\1<=t.mask/\t.mask<=BX t.size/\t.hi<=BX t.size)by exact⟨p0,p1,p2,p3,p4⟩)];refine Eq.trans (BP _ _ _ (by kernel_rfl) _ _ _ _) ?_;refine Eq.trans (G2 ..) ?_;refine Eq.trans (Jv ..) ?_;simp only[gb,AT,Tt,Tu,Tv,Tw,Tx,Ty,BM,BD,Bt,AG,BH,GQ,C3 (show¬t.pos<0 by omega),C3 (show¬255<t.pos by omega),C3 (show¬t.mask<1 by omega),gA,c1,c2,Lc,g2,g3,C3 (show¬BX t.size<t.mask by omega),C3 (show¬BX t.size<t.hi by omega),Bf (rfl:t.mask=t.mask),Bf (rfl:t.hi=t.hi)];exact Jw ..
     ·refine⟨M3,λx bb=>?_,x23⟩;rw[decide_eq_false (show¬(0<=t.pos/\t.pos<=255/\1<=t.mask/\t.mask<=BX t.size/\t.hi<=BX t.size)by intro h;omega)];refine Eq.trans (BP _ _ _ (by kernel_rfl) _ _ _ _) ?_;refine Eq.trans (G2 ..) ?_;refine Eq.trans (Jv ..) ?_;simp only[gb,AT,Tt,Tu,Tv,Tw,Tx,Ty,BM,BD,Bt,AG,BH,GQ,C3 (show¬t.pos<0 by omega),C3 (show¬255<t.pos by omega),C3 (show¬t.mask<1 by omega),gA,c1,c2,Lc,g2,g3,C3 (show¬BX t.size<t.mask by omega),Ee (show BX t.size<t.hi by omega),Bf (rfl:t.mask=t.mask),Bf (rfl:t.hi=t.hi)];exact Jw ..
    ·refine⟨M2,λx bb=>?_,x2⟩;rw[decide_eq_false (show¬(0<=t.pos/\t.pos<=255/\1<=t.mask/\t.mask<=BX t.size/\t.hi<=BX t.size)by intro h;omega)];refine Eq.trans (BP _ _ _ (by kernel_rfl) _ _ _ _) ?_;refine Eq.trans (G2 ..) ?_;refine Eq.trans (Jv ..) ?_;simp only[gb,AT,Tt,Tu,Tv,Tw,Tx,Ty,BM,BD,Bt,AG,BH,GQ,C3 (show¬t.pos<0 by omega),C3 (show¬255<t.pos by omega),C3 (show¬t.mask<1 by omega),gA,c1,Lc,g2,Ee (show BX t.size<t.mask by omega),Bf (rfl:t.mask=t.mask)];exact Jw ..
   ·refine⟨M,λx bb=>?_,Ext.refl _⟩;rw[decide_eq_false (show¬(0<=t.pos/\t.pos<=255/\1<=t.mask/\t.mask<=BX t.size/\t.hi<=BX t.size)by intro h;omega)];refine Eq.trans (BP _ _ _ (by kernel_rfl) _ _ _ _) ?_;refine Eq.trans (G2 ..) ?_;refine Eq.trans (Jv ..) ?_;simp only[gb,AT,Tt,Tu,Tv,Tw,Tx,Ty,BM,BD,Bt,AG,BH,GQ,C3 (show¬t.pos<0 by omega),C3 (show¬255<t.pos by omega),Ee (show t.mask<1 by omega)];exact Jw ..
  ·refine⟨M,λx bb=>?_,Ext.refl _⟩;rw[decide_eq_false (show¬(0<=t.pos/\t.pos<=255/\1<=t.mask/\t.mask<=BX t.size/\t.hi<=BX t.size)by intro h;omega)];refine Eq.trans (BP _ _ _ (by kernel_rfl) _ _ _ _) ?_;refine Eq.trans (G2 ..) ?_;refine Eq.trans (Jv ..) ?_;simp only[gb,AT,Tt,Tu,Tv,Tw,Tx,Ty,BM,BD,Bt,AG,BH,GQ,C3 (show¬t.pos<0 by omega),Ee (show 255<t.pos by omega)];exact Jw ..
 ·refine⟨M,λx bb=>?_,Ext.refl _⟩;rw[decide_eq_false (show¬(0<=t.pos/\t.pos<=255/\1<=t.mask/\t.mask<=BX t.size/\t.hi<=BX t.size)by intro h;omega)];refine Eq.trans (BP _ _ _ (by kernel_rfl) _ _ _ _) ?_;refine Eq.trans (G2 ..) ?_;refine Eq.trans (Jv ..) ?_;simp only[gb,AT,Tt,Tu,Tv,Tw,Tx,Ty,BM,BD,Bt,AG,BH,GQ,Ee (show t.pos<0 by omega)];exact Jw ..
theorem bu(hO:GX o)(hk:5<=k)(hM:M.top/\1<=M.size/\M.get 0= .cells false gl)(gb:M.get tb= .cells true (AR t))(hlt:tb<M.size):
  ∃M',(∀x:Nat->Value,py o k 0 (AA 93 (up x [(1, .pointer (some ⟨tb,0,none⟩)),(2, .bool false)])) M=some (.bool (F0 t),M'))/\Ext M M':=by
 by_cases h1:t.hi<t.lo
 ·refine⟨M,λx=>?_,Ext.refl _⟩;rw[show F0 t=false by simp[F0,h1]];refine Eq.trans (Ld ..) ?_;simp only[gb,AT,Tt,Tu,Tv,Tw,Tx,Ty,BM,BD,Bt,AG,BH,GQ,Ee h1]
 ·by_cases h2:t.kind=1\/t.kind=2
  ·refine⟨M,λx=>?_,Ext.refl _⟩;rw[show F0 t=decide (t.pos=0/\t.size=0/\t.mask=0/\t.hi<4294967296)by simp[F0,h1,h2]];refine Eq.trans (Ld ..) ?_;rcases h2 with h2|h2
   ·simp only[gb,AT,Tt,Tu,Tv,Tw,Tx,Ty,BM,BD,Bt,AG,BH,GQ,C3 h1,Bf h2];by_cases a1:t.pos=0
    ·by_cases a2:t.size=0
     ·by_cases a3:t.mask=0
      ·by_cases a4:t.hi<4294967296
       ·rw[Bf a1,Bf a2,Bf a3,Ee a4,decide_eq_true ⟨a1,a2,a3,a4⟩];rfl
       ·rw[Bf a1,Bf a2,Bf a3,C3 a4,decide_eq_false (λh=>a4 h.2.2.2)];rfl
      ·rw[Bf a1,Bf a2,Bi a3,decide_eq_false (λh=>a3 h.2.2.1)];rfl
     ·rw[Bf a1,Bi a2,decide_eq_false (λh=>a2 h.2.1)];rfl
    ·rw[Bi a1,decide_eq_false (λh=>a1 h.1)];rfl
   ·simp only[gb,AT,Tt,Tu,Tv,Tw,Tx,Ty,BM,BD,Bt,AG,BH,GQ,C3 h1,Bf h2,Bi (show t.kind≠1 by omega)];by_cases a1:t.pos=0
    ·by_cases a2:t.size=0
     ·by_cases a3:t.mask=0
      ·by_cases a4:t.hi<4294967296
       ·rw[Bf a1,Bf a2,Bf a3,Ee a4,decide_eq_true ⟨a1,a2,a3,a4⟩];rfl
       ·rw[Bf a1,Bf a2,Bf a3,C3 a4,decide_eq_false (λh=>a4 h.2.2.2)];rfl
      ·rw[Bf a1,Bf a2,Bi a3,decide_eq_false (λh=>a3 h.2.2.1)];rfl
     ·rw[Bf a1,Bi a2,decide_eq_false (λh=>a2 h.2.1)];rfl
    ·rw[Bi a1,decide_eq_false (λh=>a1 h.1)];rfl
  ·by_cases h3:t.kind=3\/t.kind=4
   ·by_cases hz:Vc t.size
    ·obtain⟨M',c,x'⟩:=bt hO hk hM gb hlt hz;refine⟨M',λx=>?_,x'⟩
     rw[show F0 t=decide (0<=t.pos/\t.pos<=255/\1<=t.mask/\t.mask<=BX t.size/\t.hi<=BX t.size)by
      have e3:¬(t.kind≠3/\t.kind≠4):=by omega
      have e4:¬(t.size≠1/\t.size≠2/\t.size≠4/\t.size≠8):=by unfold Vc at hz;omega
      unfold F0;rw[if_neg h1,if_neg h2,if_neg e3,if_neg e4]]
     refine Eq.trans (Ld ..) ?_;rcases h3 with h3|h3
     ·simp only[gb,AT,Tt,Tu,Tv,Tw,Tx,Ty,BM,BD,Bt,AG,BH,GQ,C3 h1,Bi (show t.kind≠1 by omega),Bi (show t.kind≠2 by omega),Bf h3];rcases hz with hz|hz|hz|hz
      ·simp only[Bf hz,AG];exact c ..
      ·simp only[Bf hz,Bi (show t.size≠1 by omega),AG,BH];exact c ..
      ·simp only[Bf hz,Bi (show t.size≠1 by omega),Bi (show t.size≠2 by omega),AG,BH];exact c ..
      ·simp only[Bf hz,Bi (show t.size≠1 by omega),Bi (show t.size≠2 by omega),Bi (show t.size≠4 by omega),AG,BH];exact c ..
     ·simp only[gb,AT,Tt,Tu,Tv,Tw,Tx,Ty,BM,BD,Bt,AG,BH,GQ,C3 h1,Bi (show t.kind≠1 by omega),Bi (show t.kind≠2 by omega),Bi (show t.kind≠3 by omega),Bf h3];rcases hz with hz|hz|hz|hz
      ·simp only[Bf hz,AG];exact c ..
      ·simp only[Bf hz,Bi (show t.size≠1 by omega),AG,BH];exact c ..
      ·simp only[Bf hz,Bi (show t.size≠1 by omega),Bi (show t.size≠2 by omega),AG,BH];exact c ..
      ·simp only[Bf hz,Bi (show t.size≠1 by omega),Bi (show t.size≠2 by omega),Bi (show t.size≠4 by omega),AG,BH];exact c ..
    ·refine⟨M,λx=>?_,Ext.refl _⟩;unfold Vc at hz
     rw[show F0 t=false by
      have e4:t.size≠1/\t.size≠2/\t.size≠4/\t.size≠8:=by omega
      have e3:¬(t.kind≠3/\t.kind≠4):=by omega
      unfold F0;rw[if_neg h1,if_neg h2,if_neg e3,if_pos e4]]
     refine Eq.trans (Ld ..) ?_;have z1:=Bi (show t.size≠1 by omega);have z2:=Bi (show t.size≠2 by omega);have z4:=Bi (show t.size≠4 by omega);have z8:=Bi (show t.size≠8 by omega);rcases h3 with h3|h3
     ·simp only[gb,AT,Tt,Tu,Tv,Tw,Tx,Ty,BM,BD,Bt,AG,BH,GQ,C3 h1,Bi (show t.kind≠1 by omega),Bi (show t.kind≠2 by omega),Bf h3,z1,z2,z4,z8]
     ·simp only[gb,AT,Tt,Tu,Tv,Tw,Tx,Ty,BM,BD,Bt,AG,BH,GQ,C3 h1,Bi (show t.kind≠1 by omega),Bi (show t.kind≠2 by omega),Bi (show t.kind≠3 by omega),Bf h3,z1,z2,z4,z8]
   ·refine⟨M,λx=>?_,Ext.refl _⟩
    rw[show F0 t=false by
     have e3:t.kind≠3/\t.kind≠4:=by omega
     unfold F0;rw[if_neg h1,if_neg h2,if_pos e3]]
    refine Eq.trans (Ld ..) ?_;simp only[gb,AT,Tt,Tu,Tv,Tw,Tx,Ty,BM,BD,Bt,AG,BH,GQ,C3 h1,Bi (show t.kind≠1 by omega),Bi (show t.kind≠2 by omega),Bi (show t.kind≠3 by omega),Bi (show t.kind≠4 by omega)]
theorem iM(hO:GX o)(hk:10<=k)(hM:M.top/\1<=M.size/\M.get 0= .cells false gl):∃M',AL Tryd.prog kp 1 o k 11 [.agg ⟨AR t⟩] M=some (.bool (F0 t),M')/\Ext M M':=by
 obtain⟨k,rfl⟩:∃k',k=k'+1:=⟨k - 1,by omega⟩
 have x1:=Ext.push M (.cells true (AR t))
 have s1:=x1.size
 obtain⟨M',c,x'⟩:=bu (M:=M.push (.cells true (AR t))) (k:=k) (tb:=M.size) (t:=t) hO (by omega) ⟨x1.top hM.1,by omega,(x1.get 0 (by omega)).trans hM.2.2⟩ (Mem.get_push_same _ _) (by show M.size<M.size+1;omega)
 refine⟨M',Bs 93 (hO.off 11 (by decide) _ _) pq pr n16 ?_ pw,x1.trans x'⟩
 refine Eq.trans (B5 [0,9] Tryd.prog kp 1 _ (Y.lpOf Tryd.prog kp 1 (AL Tryd.prog kp 1 o k) 93) (λ_ _ _ _ _ _ _=>rfl) 93 k (AN Tryd.f11) (by kernel_rfl) _ M _) ?_
 obtain⟨neg,kind,pos,size,mask,lo,hi⟩:=t
 refine Eq.trans (Xb ..) ?_
 refine Eq.trans (BP _ _ _ (by kernel_rfl) _ _ _ _) ?_
 refine Eq.trans (X9 ..) ?_
 refine Eq.trans (iY ..) ?_
 exact c ..
end
section
variable{M:Mem}{o:DT}{k tb:Nat}{t:A7}
end
end
end Go.Proofs.YtgjflcgmieiafaaDoor
namespace Go.Proofs.YtgjflcgmieiafaaDoor
open Go Go.DI Go.DI.Kit Go.Proofs Go.Cmp
noncomputable section
theorem qC:Tryd.prog.funcs[29]?=some Tryd.f29:=by kernel_rfl
theorem qD:Tryd.f29.body=some (AN Tryd.f29):=by kernel_rfl
theorem qE:Tryd.f29.ntmps=62:=by kernel_rfl
theorem n39{a b c:Value}:max [a,b,c].length Tryd.f29.ntmps=62:=by rw[qE];rfl
theorem qF:IP Tryd.prog 29 Bl=true:=by kernel_rfl
section
variable{K:CU}{mp:Nat}{rows:List A9}{AJ:List (Nat×Nat)}{fr:Nat->Prop}{M:Mem}
variable{o:DT}{k:Nat}
theorem LN{lp l:Nat}(hO:GX o)(hk:100000+15<=k)(hl:rows.length+1<=100000)(h:St K mp rows ((lp,l)::AJ) fr M):
  ∃M1,AL Tryd.prog kp 1 o k 18 [ptr mp, .slice (some ⟨M.size,0,none⟩) 1 1] (M.push (.cells true [ptr lp]))=some (Bl,M1)/\HU o k 19 [ptr mp, .slice (some ⟨M1.size,0,none⟩) 1 1] (M1.push (.cells true [ptr lp])) (St K mp (rows++ [lab l]) AJ fr):=by
 have hb:=h.box (.cells true [ptr lp])
 obtain⟨M3,c3,h3⟩:=LO (k:=k) (hO.off 18 (by decide)) (by omega) (by omega) hb.1 (BQ ..)
 have h3:=h3.weak h.glb hb.2
 have hb2:=h3.box (.cells true [ptr lp])
 obtain⟨M4,c4,h4⟩:=KB (k:=k) (ps:= [(lp,l)]) (hO.off 19 (by decide)) (by simp;omega) (by omega) (by simp) (BQ ..) hb2.1
 exact⟨M3,c3,M4,c4,h4.weak h.glb hb2.2⟩
theorem Vv{t:A7}{lp l dl dn tb n i:Nat}(hO:GX o)(hk:100000+30<=k)(hl:rows.length+10<=100000)(hp:0<=t.pos/\t.pos<=255)(hz:Vc t.size)(hi:i<16)(hlp:(lp,l)∈AJ)(hdl:(dl,dn)∈AJ)(htb:K tb=some (.cells true (AR t)))
  (h1:fr (n+1)) (h2:fr (n+2)) (h:St K mp rows AJ fr M) (x:Nat->Value):∃x' M',AH Tryd.prog kp 1 (AL Tryd.prog kp 1 o k) (A6 Tryd.prog kp 1 (AL Tryd.prog kp 1 o k) 62) 62 k (BW Tryd.f29 0) (AA 62 (up x [(0, .pointer (some ⟨mp,0,none⟩)),(2, .pointer (some ⟨lp,0,none⟩)),(4, .pointer (some ⟨tb,0,none⟩)),(6, .pointer (some ⟨dl,0,none⟩)),(18, .int .i64 (i:Int))])) M=some (.normal,AA 62 (up x' [(0, .pointer (some ⟨mp,0,none⟩)),(2, .pointer (some ⟨lp,0,none⟩)),(4, .pointer (some ⟨tb,0,none⟩)),(6, .pointer (some ⟨dl,0,none⟩)),(18, .int .i64 ((i+1:Nat):Int))]),M')/\
   St K mp (rows++([ins (Cw 5 2 i) (if i=15 then l else n+1)]++C9 (n+2) (14+4*(i:Int)+t.pos+t.size) l++ [ins (BG t.size 2 7 (14+4*(i:Int)+t.pos)) 0,ins Bm dn,lab (n+1)])) AJ (λj=>fr j/\j≠n+1/\j≠n+2) M':=by
 have hzb:1<=t.size/\t.size<=8:=by rcases hz with e|e|e|e<;>rw[e] <;>omega
 have e1:IntKind.wrap .i64 (Int.mul (4:Int) (i:Int))=4*(i:Int):=wrap64 (by show _<=4*(i:Int)/\4*(i:Int)<=_;omega)
 have e2:IntKind.wrap .i64 (Int.add (14:Int) (4*(i:Int)))=14+4*(i:Int):=wrap64 (by show _<=14+4*(i:Int)/\14+4*(i:Int)<=_;omega)
 have e3:IntKind.wrap .i64 (Int.add (14+4*(i:Int)) t.pos)=14+4*(i:Int)+t.pos:=wrap64 (by show _<=14+4*(i:Int)+t.pos/\14+4*(i:Int)+t.pos<=_;omega)
 have e4:IntKind.wrap .i64 (Int.add (14+4*(i:Int)+t.pos) t.size)=14+4*(i:Int)+t.pos+t.size:=wrap64 (by show _<=14+4*(i:Int)+t.pos+t.size/\14+4*(i:Int)+t.pos+t.size<=_;omega)
 have h0:=h.label h1
 have hw:IntKind.wrap .i32 (i:Int)=(i:Int):=Hq (by omega) (by omega)
 have hsub:∀j,(((fr j/\j≠n+1)/\j≠n+2)↔ (fr j/\j≠n+1/\j≠n+2)):=λj=>and_assoc
 have hW:∃p,p=(if i=15 then lp else M.size)/\(p,if i=15 then l else n+1)∈(M.size,n+1)::AJ:=by
  refine⟨_,rfl,?_⟩;by_cases e:i=15
  ·rw[if_pos e,if_pos e];exact List.mem_cons_of_mem _ hlp
  ·rw[if_neg e,if_neg e];exact List.mem_cons_self ..
 obtain⟨p,hpe,hpm⟩:=hW
 obtain⟨M1,c1,h1'⟩:=LM (k:=k) (op:=5) (d:=2) (n:=(i:Int)) hO (by omega) (by omega) (by simp) hpm h0
 obtain⟨M2,c2,h2'⟩:=Ol (k:=k) (n:=14+4*(i:Int)+t.pos+t.size) (a:=n+2) hO (by omega) (by simp;omega) (List.mem_cons_of_mem _ hlp) ⟨h2,by omega⟩ h1'
 obtain⟨M3,c3,h3'⟩:=Ho (k:=k) (z:=t.size) (d:=2) (s:=7) (n:=14+4*(i:Int)+t.pos) hO (by omega) (by simp[C9];omega) (.inr (.inr (.inr ⟨hz,rfl,rfl⟩))) h2'
 obtain⟨M4,c4,h4'⟩:=JR (k:=k) hO (by omega) (by simp[C9];omega) (List.mem_cons_of_mem _ hdl) h3'
 obtain⟨M5,c5,M6,c6,h6⟩:=LN (k:=k) hO (by omega) (by simp[C9];omega) h4'
 have gb1:=h1'.get htb
 have gb2:=h2'.get htb
 have hfin:=h6.frees (fr':=λj=>fr j/\j≠n+1/\j≠n+2) λj hj=>(hsub j).2 hj
 have hb:∃x',AH Tryd.prog kp 1 (AL Tryd.prog kp 1 o k) (A6 Tryd.prog kp 1 (AL Tryd.prog kp 1 o k) 62) 62 k (BW Tryd.f29 0) (AA 62 (up x [(0, .pointer (some ⟨mp,0,none⟩)),(2, .pointer (some ⟨lp,0,none⟩)),(4, .pointer (some ⟨tb,0,none⟩)),(6, .pointer (some ⟨dl,0,none⟩)),(18, .int .i64 (i:Int))])) M=some (.normal,AA 62 (up x' [(0, .pointer (some ⟨mp,0,none⟩)),(2, .pointer (some ⟨lp,0,none⟩)),(4, .pointer (some ⟨tb,0,none⟩)),(6, .pointer (some ⟨dl,0,none⟩)),(18, .int .i64 ((i+1:Nat):Int))]),M6):=by
  have hlt:Y.ltF (i:Int) (16:Int)=true:=Ee (by omega);by_cases e:i=15
  ·rw[if_pos e]at hpe;apply Exists.intro;refine EZ ?_;refine Eq.trans (SG ..) ?_;rw[hlt,AG,Bf (show(i:Int)=15 by omega),AG,hw];subst hpe;refine step c1 ?_;rw[gb1,AT,show Y.nthL (AR t) 2=some (.int .i64 t.pos)from rfl,BM,BD,Bt,AG,AT,show Y.nthL (AR t) 3=some (.int .i64 t.size)from rfl,BM,BD,Bt,AG,e1,e2,e3,e4];refine step c2 ?_;rw[gb2,AT,show Y.nthL (AR t) 3=some (.int .i64 t.size)from rfl,BM,BD,Bt,AG];refine step c3 ?_;refine step c4 ?_;refine step c5 ?_;refine step c6 ?_;rw[Ca (by omega)];rfl
  ·rw[if_neg e]at hpe;apply Exists.intro;refine EZ ?_;refine Eq.trans (SG ..) ?_;rw[hlt,AG,Bi (show(i:Int)≠15 by omega),BH,hw];subst hpe;refine step c1 ?_;rw[gb1,AT,show Y.nthL (AR t) 2=some (.int .i64 t.pos)from rfl,BM,BD,Bt,AG,AT,show Y.nthL (AR t) 3=some (.int .i64 t.size)from rfl,BM,BD,Bt,AG,e1,e2,e3,e4];refine step c2 ?_;rw[gb2,AT,show Y.nthL (AR t) 3=some (.int .i64 t.size)from rfl,BM,BD,Bt,AG];refine step c3 ?_;refine step c4 ?_;refine step c5 ?_;refine step c6 ?_;rw[Ca (by omega)];rfl
 obtain⟨x',hb⟩:=hb
 refine⟨x',M6,hb,?_⟩
 simp only[List.append_assoc,List.cons_append,List.nil_append]at hfin ⊢
 exact hfin
theorem Nl{t:A7}{lp l dl dn tb:Nat}(hO:GX o)(hk:100000+30<=k)(hp:0<=t.pos/\t.pos<=255)(hz:Vc t.size)(hlp:(lp,l)∈AJ)(hdl:(dl,dn)∈AJ)(htb:K tb=some (.cells true (AR t))):
  ∀(d i:Nat),i+d=16->∀(jj n:Nat) (rows:List A9) (fr:Nat->Prop) (x:Nat->Value) (M:Mem),d+1<=jj->rows.length+10*d<=100000->(∀j,n<j/\j<=n+2*d->fr j)->St K mp rows AJ fr M->
  ∃x' M',B2 (AH Tryd.prog kp 1 (AL Tryd.prog kp 1 o k) (A6 Tryd.prog kp 1 (AL Tryd.prog kp 1 o k) 62) 62 k (BW Tryd.f29 0)) jj (AA 62 (up x [(0, .pointer (some ⟨mp,0,none⟩)),(2, .pointer (some ⟨lp,0,none⟩)),(4, .pointer (some ⟨tb,0,none⟩)),(6, .pointer (some ⟨dl,0,none⟩)),(18, .int .i64 (i:Int))])) M=some (.exit 0,AA 62 (up x' [(0, .pointer (some ⟨mp,0,none⟩)),(2, .pointer (some ⟨lp,0,none⟩)),(4, .pointer (some ⟨tb,0,none⟩)),(6, .pointer (some ⟨dl,0,none⟩)),(18, .int .i64 ((16:Nat):Int))]),M')/\
   St K mp (rows++CR t l dn d i n) AJ (λj=>fr j/\¬(n<j/\j<=n+2*d)) M'
 |0,i,hi,jj,n,rows,fr,x,M,hjj,_,_,h=>by
  obtain⟨jj,rfl⟩:∃j',jj=j'+1:=⟨jj - 1,by omega⟩;obtain rfl:i=16:=by omega
  have hb:∃x',AH Tryd.prog kp 1 (AL Tryd.prog kp 1 o k) (A6 Tryd.prog kp 1 (AL Tryd.prog kp 1 o k) 62) 62 k (BW Tryd.f29 0) (AA 62 (up x [(0, .pointer (some ⟨mp,0,none⟩)),(2, .pointer (some ⟨lp,0,none⟩)),(4, .pointer (some ⟨tb,0,none⟩)),(6, .pointer (some ⟨dl,0,none⟩)),(18, .int .i64 ((16:Nat):Int))])) M=some (.exit 0,AA 62 (up x' [(0, .pointer (some ⟨mp,0,none⟩)),(2, .pointer (some ⟨lp,0,none⟩)),(4, .pointer (some ⟨tb,0,none⟩)),(6, .pointer (some ⟨dl,0,none⟩)),(18, .int .i64 ((16:Nat):Int))]),M):=by
   apply Exists.intro;refine EZ ?_;refine Eq.trans (SG ..) ?_;rw[show Y.ltF ((16:Nat):Int) (16:Int)=false from rfl,BH];rfl
  obtain⟨x',hb⟩:=hb;refine⟨x',M,Db jj hb (by simp),?_⟩;rw[show CR t l dn 0 16 n= []from rfl,List.append_nil];exact h.frees λj hj=>hj.1
 |d+1,i,hi,jj,n,rows,fr,x,M,hjj,hl,hf,h=>by
  obtain⟨jj,rfl⟩:∃j',jj=j'+1:=⟨jj - 1,by omega⟩;obtain⟨x1,M1,hb,h1⟩:=Vv (n:=n) (i:=i) hO hk (by omega) hp hz (by omega) hlp hdl htb (hf _ ⟨by omega,by omega⟩) (hf _ ⟨by omega,by omega⟩) h x;obtain⟨x2,M2,h2,h3⟩:=Nl hO hk hp hz hlp hdl htb d (i+1) (by omega) jj (n+2) _ _ x1 M1 (by omega) (by simp[C9];omega) (λj hj=>⟨hf j ⟨by omega,by omega⟩,by omega,by omega⟩) h1;refine⟨x2,M2,(EE jj hb).trans h2,?_⟩
  have e:rows++CR t l dn (d+1) i n=rows++([ins (Cw 5 2 i) (if i=15 then l else n+1)]++C9 (n+2) (14+4*(i:Int)+t.pos+t.size) l++ [ins (BG t.size 2 7 (14+4*(i:Int)+t.pos)) 0,ins Bm dn,lab (n+1)])++CR t l dn d (i+1) (n+2):=by
   rw[CR];simp only[List.append_assoc]
  rw[e];exact h3.frees λj hj=>⟨⟨hj.1,by omega,by omega⟩,by omega⟩
theorem cm{t:A7}{lp l n:Nat}(hO:GX o)(hk:100000+40<=k)(hl:rows.length+200<=100000)(hp:0<=t.pos/\t.pos<=255)(hz:Vc t.size)(hlp:(lp,l)∈AJ)(hf:∀j,n<j/\j<=n+34->fr j)(h:St K mp rows AJ fr M):
  HU o k 29 [ptr mp, .agg ⟨AR t⟩,ptr lp] M (St K mp (rows++(C9 (n+2) 15 l++ [ins (BG 1 2 7 14) 0,ins (DE 5 2 15) 0]++CR t l (n+1) 16 0 (n+2)++ [lab (n+1)])) AJ (λj=>fr j/\¬(n<j/\j<=n+34))):=by
 obtain⟨k,rfl⟩:∃k',k=k'+1:=⟨k - 1,by omega⟩
 have hb:=h.box (.cells true (AR t))
 obtain⟨M1,c1,h1⟩:=Ol (k:=k) (n:=15) (a:=n+2) hO (by omega) (by omega) hlp (hf _ ⟨by omega,by omega⟩) hb.1
 obtain⟨M2,c2,h2⟩:=Ho (k:=k) (z:=1) (d:=2) (s:=7) (n:=14) hO (by omega) (by simp[C9];omega) (by simp) h1
 obtain⟨M3,c3,h3⟩:=Om (k:=k) (op:=5) (d:=2) (n:=15) hO (by omega) (by simp[C9];omega) (by simp) h2
 have h4:=h3.label (l:=n+1) ⟨hf _ ⟨by omega,by omega⟩,by omega⟩
 obtain⟨x5,M5,hloop,h5⟩:=Nl (AJ:=(M3.size,n+1)::AJ) (dl:=M3.size) (dn:=n+1) (t:=t) hO (k:=k) (by omega) hp hz (List.mem_cons_of_mem _ hlp) (List.mem_cons_self ..) (BQ K M.size (.cells true (AR t))) 16 0 (by omega) k (n+2) _ _
  (up Go.DI.x0 [(16,(.pointer (some (Addr.mk mp 0 none)))),(12,(.pointer (some (Addr.mk lp 0 none)))),(14,(.pointer (some (Addr.mk mp 0 none)))),(1,(.agg ⟨AR t⟩)),(17,Bl),(13,Bl),(11,(.pointer (some (Addr.mk mp 0 none)))),(15,Bl)]) _ (by omega) (by simp[C9];omega) (λj hj=>⟨⟨hf j ⟨by omega,by omega⟩,by omega⟩,by omega⟩) h4
 have hlen:(CR t l (n+1) 16 0 (n+2)).length=112:=by simp[CR,C9]
 obtain⟨M6,c6,M7,c7,h7⟩:=LN (k:=k) hO (by omega) (by simp[C9,hlen];omega) h5
 have h7:=(h7.weak h.glb hb.2).frees (fr':=λj=>fr j/\¬(n<j/\j<=n+34)) λj hj=>⟨⟨⟨hj.1,by omega⟩,by omega⟩,by omega⟩
 simp only[List.append_assoc]at h7 ⊢
 refine⟨M7,Bs 62 (hO.off 29 (by decide) _ _) qC qD n39 ?_ qF,h7⟩
 obtain⟨neg,kind,pos,size,mask,lo,hi⟩:=t
 refine Eq.trans (Vw ..) ?_
 refine step c1 ?_
 refine step c2 ?_
 refine step c3 ?_
 rw[Y.lpOf_eq,Y.loopC_body]
 refine Eq.trans (congrArg (λr=>Y.onE r _) hloop) ?_
 rw[Y.onE_some]
 refine Eq.trans (SH ..) ?_
 refine step c6 ?_
 refine step c7 ?_
 rfl
end
end
end Go.Proofs.YtgjflcgmieiafaaDoor
