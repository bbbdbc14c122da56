/- CompileKnown answers true: the document's examples of tables, their codes, sizes, faults and verdicts are as it says. Conditions: those of the given row and its card (the variable insn.sizes is laid as its initialiser says). -/
import Derived.Test.YtgjflcgmieiafaaDoorK01
import Derived.LoopN
import Derived.Scope
import Derived.Test.YtgjflcgmieiafaaDoorK00
import Derived.ChangeSame
import Derived.Below
import Derived.KernelRfl
set_option linter.all false
set_option linter.unusedVariables false
set_option linter.unusedSimpArgs false
namespace Go.DI
section
variable{P:Program}{K:TypeId->Bool}{G B0 n:Nat}{ι:Ren}{m:Mem}{w:World}{t:AE}{a:Act}
theorem da{ι':Ren}{e:TypeId}{c c' rest:List Value}{T:Nat}(hc:B7 ι' c c')(hT:(c'++rest).length=T)(hf:B0<=w.heap.size):
  Bd B0 ι' (.cells true c) ⟨w.heap.size,0,T⟩ (w.alloc (.cells (c'++rest).toArray e)):=by
 refine⟨(c'++rest).toArray,e,(0,0),?_,by simpa using hT,?_,λi v hv=>?_,λ_=>⟨hf,λo _ h=>by simp at h⟩⟩
 ·show(w.heap.push _)[w.heap.size]?=_;simp
 ·have:=hc.length;simp only[List.length_append]at hT;simp only;omega
 ·obtain⟨y,hy,hr⟩:=hc.get hv;refine⟨y,?_,hr⟩;simp only[List.getElem?_toArray,Nat.zero_add];rw[List.getElem?_append_left]
  ·exact hy
  ·rcases Nat.lt_or_ge i c'.length with h1|h1
   ·exact h1
   ·rw[List.getElem?_eq_none h1]at hy;cases hy
theorem Lo(hr:Rel B0 G ι m w)(hn:ι m.size=none){b:Nat}{L:Loc}(hL:ι b=some L){cb:List Value}(hg:m.get b= .cells true cb){o' k:Nat}{old new new':List Value}(hnr:B7 ι new new')
  (hone:new.all one=true) (hol:old.length=k) (hfit:o'+k+new.length<=L.total)
  (hold:∀rc e fr,w.heap[L.block]?=some (.cells rc e fr)->∀(i:Nat) (v:Value),old[i]?=some v->∃v',rc[o'+i]?=some v'/\AV ι v v'):
  ∃w',(storeCells ⟨L.block,o'+k,none⟩ new').run P w= .ok () w'/\Rel B0 G (λq=>if q=m.size then some ⟨L.block,o',L.total⟩else ι q) ((m.push (.cells true (old++new))).set b .none) w'/\
   Dd ι (λq=>if q=m.size then some ⟨L.block,o',L.total⟩else ι q) m ((m.push (.cells true (old++new))).set b .none) w w':=by
 have hlt:=hr.get_lt (b:=b) (by rw[hg];simp)
 have hb:=hr.blk b L hlt hL
 rw[hg]at hb
 obtain⟨rc,e,fr,h1,h2,h3,h4,h5⟩:=hb
 have hlen:=hnr.length
 have hone':new'.all one=true:=by rw[←hnr.all λ_ _ h=>h.one];exact hone
 have hrun:=EB (P:=P) L.block e fr new' (o'+k) 0 rc w h1 (by omega) (λj g1 g2=>(h5 rfl).2 j (by omega)) hone'
 have hle:ι.le (λq=>if q=m.size then some ⟨L.block,o',L.total⟩else ι q):=by
  intro q L' hq;have:q≠m.size:=by intro e;rw[e,hn]at hq;cases hq
  simp[this,hq]
 refine⟨_,hrun,Rel.inplace hr hn hL hlt (by rw[hg];rfl) ?_⟩
 refine⟨_,e,fr,by rw[Cy _ _ _ _ (Fe h1)];simp;rfl,?_,?_,λi v hv=>?_,λ_=>h5 rfl⟩
 ·rw[List.size_toArray,Ey _ _ _ (by simp;omega)];simpa using h2
 ·simp only[List.length_append];omega
 ·simp only[List.getElem?_toArray,Nat.add_zero];rw[EF _ _ _ _ (by simp;omega)];rw[List.getElem?_append]at hv;split at hv
  ·rename_i hi;obtain⟨v',hv',hrv⟩:=hold rc e fr h1 i v hv;refine⟨v',?_,hrv.mono hle⟩;rw[if_neg (by omega)];simpa using hv'
  ·rename_i hi;obtain⟨v',hv',hrv⟩:=hnr.get hv;refine⟨v',?_,hrv.mono hle⟩
   have hi':i - old.length<new'.length:=by
    rcases Nat.lt_or_ge (i - old.length) new'.length with h6|h6
    ·exact h6
    ·rw[List.getElem?_eq_none h6]at hv';cases hv'
   rw[if_pos (by omega),←hv'];congr 1;omega
set_option maxHeartbeats 1000000 in
theorem SS(hr:Rel B0 G ι m w){tS tX ty:TypeId}{s s' x x' v:Value}(hs:AV ι s s')(hx:AV ι x x'){m':Mem}(hn:m.size<m'.size->ι m.size=none)(h:Bp P m tS tX s x=some (v,m')):
  ∃ι' v' w',(Builtin.append_ #[tS,tX] ty #[s',x']).run P w= .ok v' w'/\AV ι' v v'/\Rel B0 G ι' m' w'/\Dd ι ι' m m' w w':=by
 unfold Bp at h
 split at h<;>try (simp at h;done)
 rename_i e dX hX0 hu huX
 have hX:∀(k:IntKind),dX≠ .int k:=λk e1=>hX0 k e1
 split at h<;>try (simp at h;done)
 rename_i base sLen sCap size bytes k hsz hby hlen
 split at h<;>try (simp at h;done)
 rename_i hsz0
 split at h<;>try (simp at h;done)
 rename_i new hnew
 obtain⟨new',hf,hnr⟩:=Ga (P:=P) hr hx hnew hlen (Nat.le_refl _)
 have hlen':=Lp (P:=P) (w:=w) hx hlen
 split at h
 ·rename_i hroom;split at h
  ·split at h<;>simp at h;rename_i hk0;obtain⟨rfl,rfl⟩:=h;cases hs;refine⟨ι,_,w,?_, .slc0 _ _,hr,Dd.refl _ _ _⟩;rw[run_append_room hu huX hX hsz hlen' hroom hf]
  ·rename_i b off sp;split at h
   ·rename_i hk0;subst hk0;simp at h;obtain⟨rfl,rfl⟩:=h
    have hnil:new'= []:=by
     have h0:=hnr.length
     have:new= []:=by
      unfold CG at hnew;split at hnew<;>try (simp at hnew;done)
      ·unfold Ck at hnew;split at hnew<;>try (simp at hnew;done)
       split at hnew<;>simp at hnew;exact hnew
      ·simpa using hnew
      ·split at hnew<;>simp at hnew;exact hnew
     rw[this]at h0;exact List.eq_nil_of_length_eq_zero (by simpa using h0.symm)
    subst hnil;obtain⟨base',sCap',rfl,hcap⟩:=hs.len0;refine⟨ι, .slice base' (sLen+0) sCap',w,?_,by simpa using hs,hr,Dd.refl _ _ _⟩;rw[run_append_room hu huX hX hsz hlen' (Nat.le_trans hroom hcap) hf];cases base'<;>simp[storeCells]
   ·rename_i hk0;split at h<;>simp at h;rename_i m₁ hstR;obtain⟨rfl,rfl⟩:=h;cases hs with
    |slc _ _ _ _ L hL=>
     obtain⟨w',h1,h2,h3⟩:=Hu (P:=P) hr hL hnr (H0 hstR);refine⟨ι,_,w',?_, .slc _ _ _ _ _ hL,h2,h3⟩;rw[run_append_room hu huX hX hsz hlen' hroom hf];simp only[Addr.add_none,Nat.add_assoc];rw[h1];rfl
    |loose _ _ _ _ _ c' L hL hc htot=>
     simp[Ie]at hstR
    |loose0=>omega
    |empty=>omega
 ·rename_i hroom;split at h<;>try (simp at h;done)
  rename_i hcond;obtain⟨hb1,hb2,hb3,hz1⟩:=hcond;rw[Option.isSome_iff_exists]at hz1;obtain⟨zs,hzs⟩:=hz1;obtain⟨z,sz,hz,hs'',hzsz,_,_⟩:=Ig hzs;rw[hsz]at hs'';cases hs'';split at h<;>try (simp at h;done)
  rename_i old hold;split at h<;>try (simp at h;done)
  rename_i hall;obtain⟨hall,hol,hnl⟩:=hall;simp only[Bool.and_eq_true]at hall;obtain⟨base',sCap',rfl,hcap⟩:=hs.len0
  replace hn:=hn (by
   split at h
   ·split at h<;>try (simp at h;done)
    split at h<;>simp at h;rw[←h.2];simp
   ·simp at h;rw[←h.2];simp)
  have hrd:=hr.drew;obtain⟨old',hfo,hor⟩:=Ga (P:=P) hrd.1 hs hold (ln:=sLen) rfl (Nat.le_refl _);obtain⟨new'',hfd,hndr⟩:=Ga (P:=P) hrd.1 hx hnew hlen (Nat.le_refl _);have hol':=hor.length;have hnl':=hndr.length
  have realloc:¬sLen+k<=sCap'->∃ι' v' w',(Builtin.append_ #[tS,tX] ty #[.slice base' sLen sCap',x']).run P w= .ok v' w'/\AV ι' (.slice (some ⟨m.size,0,some size⟩) (sLen+k) (sLen+k)) v'/\
    Rel B0 G ι' (m.push (.cells true (old++new))) w'/\Dd ι ι' m (m.push (.cells true (old++new))) w w':=by
   intro hneed;obtain⟨cap',hcap',hrun⟩:=Lq (ty:=ty) hu huX hX hsz hby hz hzsz hlen' hneed hb1 hb2 hb3 hfo hfd
   have hle:ι.le (λq=>if q=m.size then some ⟨w.heap.size,0,cap'*size⟩else ι q):=by
    intro q L' hq;have:q≠m.size:=by intro e;rw[e,hn]at hq;cases hq
    simp[this,hq]
   have htot:((old'++new'')++(Builtin.zeroCells z.cells (cap' - (sLen+k))).toList).length=cap'*size:=by
    simp only[List.length_append,Array.length_toList,size_zeroCells,hzsz,←hol',←hnl',hol,hnl,←Nat.add_mul];congr 1;omega
   have hp:=Rel.push (k:=cap'*size) (x:= .cells true (old++new)) (o:= .cells ((old'++new'')++(Builtin.zeroCells z.cells (cap' - (sLen+k))).toList).toArray e) hrd.1 hn
    (da (B7.mono hle (hor.append hndr)) htot hr.floor)
   refine⟨_,_,_,hrun,?_,hp.1,hrd.2.trans hp.2⟩;have:=AV.loose (ι:=λq=>if q=m.size then some ⟨w.heap.size,0,cap'*size⟩else ι q) m.size 0 size (sLen+k) (sLen+k) cap' ⟨w.heap.size,0,cap'*size⟩ (by simp) hcap' (by simp);simpa using this
  cases hs with
  |slc0=>
   simp at h;obtain⟨rfl,rfl⟩:=h;exact realloc hroom
  |slc b off _ _ L hL=>
   simp at h;obtain⟨rfl,rfl⟩:=h;exact realloc hroom
  |loose b off e' _ _ _ L hL hc htot=>
   simp only at h;split at h<;>try (simp at h;done)
   rename_i he;subst he;split at h<;>simp at h;rename_i cb hg;obtain⟨rfl,rfl⟩:=h;have hlt:=hr.get_lt (b:=b) (by rw[hg];simp);by_cases hneed:sLen+k<=sCap'
   ·have hnb:(sLen+k)*e'<=sCap'*e':=Nat.mul_le_mul_right _ hneed;rw[Nat.add_mul]at hnb
    obtain⟨w',h1,h2,h3⟩:=Lo (P:=P) (o':=L.base+off) (k:=sLen*e') hr hn hL hg hnr hall.1 hol (by rw[hnl];omega) (λrc e₁ fr hrc i v hv=>by
     have hb:=hr.blk b L hlt hL;rw[hg]at hb;obtain⟨rc',e₂,fr',g1,g2,g3,g4,g5⟩:=hb;rw[hrc]at g1;cases g1;simp only[CG,Ck,hg]at hold;split at hold<;>simp at hold;rw[←hold,List.getElem?_take]at hv;split at hv
     ·rw[List.getElem?_drop]at hv;obtain⟨v',hv',hrv⟩:=g4 _ _ hv;exact⟨v',by rw[←hv'];congr 1;omega,hrv⟩
     ·simp at hv)
    refine⟨_, .slice (some ⟨L.block,L.base+off,none⟩) (sLen+k) sCap',w',?_,?_,h2,h3⟩
    ·rw[run_append_room hu huX hX hsz hlen' hneed hf];simp only[Addr.add_none];rw[h1];rfl
    ·have:=AV.loose (ι:=λq=>if q=m.size then some ⟨L.block,L.base+off,L.total⟩else ι q) m.size 0 e' (sLen+k) (sLen+k) sCap' ⟨L.block,L.base+off,L.total⟩ (by simp) hneed (by simpa using htot);simpa using this
   ·obtain⟨ι',v',w',h1,h2,h3,h4⟩:=realloc hneed;have hk:=Rel.kill h3 (b:=b) (by simp;omega);exact⟨ι',v',w',h1,h2,hk.1,h4.trans hk.2⟩
  |loose0 b off e' o' _ L hL htot=>
   simp only at h;split at h<;>try (simp at h;done)
   rename_i he;subst he;split at h<;>simp at h;rename_i cb hg;obtain⟨rfl,rfl⟩:=h;have hlt:=hr.get_lt (b:=b) (by rw[hg];simp);by_cases hneed:0+k<=sCap'
   ·have hnb:(0+k)*e'<=sCap'*e':=Nat.mul_le_mul_right _ hneed;rw[Nat.zero_add]at hnb;have hold0:old= []:=List.eq_nil_of_length_eq_zero (by simpa using hol);subst hold0;obtain⟨w',h1,h2,h3⟩:=Lo (P:=P) (o':=o') (k:=0) (old:= []) hr hn hL hg hnr hall.1 rfl (by rw[hnl];omega) (λrc e₁ fr hrc i v hv=>by simp at hv);refine⟨_, .slice (some ⟨L.block,o',none⟩) (0+k) sCap',w',?_,?_,h2,h3⟩
    ·rw[run_append_room hu huX hX hsz hlen' hneed hf];simp only[Addr.add_none,Nat.zero_mul];rw[h1];rfl
    ·have:=AV.loose (ι:=λq=>if q=m.size then some ⟨L.block,o',L.total⟩else ι q) m.size 0 e' (0+k) (0+k) sCap' ⟨L.block,o',L.total⟩ (by simp) hneed (by simpa using htot);simpa using this
   ·obtain⟨ι',v',w',h1,h2,h3,h4⟩:=realloc hneed;have hk:=Rel.kill h3 (b:=b) (by simp;omega);exact⟨ι',v',w',h1,by simpa using h2,hk.1,h4.trans hk.2⟩
  |empty b off e' a=>
   simp only at h;split at h<;>try (simp at h;done)
   split at h<;>simp at h;rename_i cb hg;obtain⟨rfl,rfl⟩:=h;have hlt:=hr.get_lt (b:=b) (by rw[hg];simp);obtain⟨ι',v',w',h1,h2,h3,h4⟩:=realloc hroom;have hk:=Rel.kill h3 (b:=b) (by simp;omega);exact⟨ι',v',w',h1,by simpa using h2,hk.1,h4.trans hk.2⟩
theorem YR(hr:Rel B0 G ι m w){tD tX ty:TypeId}{s s' x x' v:Value}(hs:AV ι s s')(hx:AV ι x x'){m':Mem}(h:Lr P m tD s x=some (v,m')):
  ∃v' w',(Builtin.copy_ #[tD,tX] ty #[s',x']).run P w= .ok v' w'/\AV ι v v'/\Rel B0 G ι m' w'/\Dd ι ι m m' w w':=by
 unfold Lr at h
 split at h<;>try (simp at h;done)
 rename_i e hu
 split at h<;>try (simp at h;done)
 rename_i base dLen cp size sl hsz hlen
 split at h<;>try (simp at h;done)
 rename_i hsz0
 split at h<;>try (simp at h;done)
 rename_i new hnew
 obtain⟨new',hf,hnr⟩:=Ga (P:=P) hr hx hnew hlen (Nat.min_le_left _ _)
 have hlen':=Lp (P:=P) (w:=w) hx hlen
 obtain⟨base',sCap',rfl,hcap⟩:=hs.len0
 have hrun:(Builtin.copy_ #[tD,tX] ty #[.slice base' dLen sCap',x']).run P w=match base' with
   |some a=>((storeCells a new').run P w).andThen λ_ w'=> .ok (.int .i64 (Nat.min sl dLen:Nat)) w'
   |none=> .ok (.int .i64 (Nat.min sl dLen:Nat)) w:=by
  cases base'<;>simp[Builtin.copy_,AU hu,hlen',BB hsz,hf,goInt]
 split at h
 ·simp at h;obtain⟨rfl,rfl⟩:=h;cases hs;exact⟨_,w,hrun, .int _ _,hr,Dd.refl _ _ _⟩
 ·rename_i b off sp;split at h
  ·rename_i h0;simp at h;obtain⟨rfl,rfl⟩:=h
   have hnil:new'= []:=by
    have hl0:=hnr.length
    have:new= []:=by
     rw[h0]at hnew;unfold CG at hnew;split at hnew<;>try (simp at hnew;done)
     ·unfold Ck at hnew;split at hnew<;>try (simp at hnew;done)
      split at hnew<;>simp at hnew;exact hnew
     ·simpa using hnew
     ·split at hnew<;>simp at hnew;exact hnew
    rw[this]at hl0;exact List.eq_nil_of_length_eq_zero (by simpa using hl0.symm)
   subst hnil;refine⟨_,w,?_, .int _ _,hr,Dd.refl _ _ _⟩;rw[hrun];cases base'<;>simp[storeCells]
  ·rename_i h0;split at h<;>simp at h;rename_i m₁ hst;obtain⟨rfl,rfl⟩:=h;cases hs with
   |slc _ _ _ _ L hL=>
    obtain⟨w',h1,h2,h3⟩:=Hu (P:=P) hr hL hnr hst;exact⟨_,w',by rw[hrun];simp only[h1];rfl, .int _ _,h2,h3⟩
   |loose _ _ _ _ _ c' L hL hc htot=>
    obtain⟨w',h1,h2,h3⟩:=Hu (P:=P) hr hL hnr hst;exact⟨_,w',by rw[hrun];simp only[h1];rfl, .int _ _,h2,h3⟩
   |loose0=>exact absurd (Nat.min_zero _) h0
   |empty=>exact absurd (Nat.min_zero _) h0
theorem Ls{v:Value}{b:UInt8}(h:byteOf v=some b):∃n:Int,v= .int .u8 n/\b=UInt8.ofNat n.toNat:=by
 unfold byteOf at h
 split at h<;>simp at h
 exact⟨_,rfl,h.symm⟩
theorem H2:∀(c:List Value) (l:List UInt8),E2 c=some l->∀(s:ByteArray),(forIn c s λ(c:Value) (r:ByteArray)=>(match c with
   | .int .u8 n=>(pure (ForInStep.yield (r.push (UInt8.ofNat n.toNat))):Sem (ForInStep ByteArray))
   |_=>do
    stuck (α:=PUnit) "bytesToString: byte expected"
    pure (ForInStep.yield r))).run P w= .ok ⟨(s.data.toList++l).toArray⟩ w
 | [],l,h,s=>by simp[E2]at h;subst h;simp
 |v::c,l,h,s=>by
  simp only[E2]at h;split at h<;>try (simp at h;done)
  rename_i b hb;split at h<;>simp at h;rename_i r hr;subst h;obtain⟨n,rfl,rfl⟩:=Ls hb;rw[List.forIn_cons];simp only[Sem.run_bind,Sem.run_pure,Result.andThen_ok];rw[H2 c r hr];congr 2;simp[ByteArray.push]
theorem Ki{c c':List Value}(h:B7 ι c c'):∀{l:List UInt8},E2 c=some l->E2 c'=some l:=by
 induction h with
 |nil=>intro l h;exact h
 |cons h0 t ih=>
  intro l h;simp only[E2]at h ⊢;split at h<;>try (simp at h;done)
  rename_i b hb;split at h<;>simp at h;rename_i r hr;obtain⟨n,rfl,rfl⟩:=Ls hb;cases h0;simp only[byteOf,ih hr,h]
theorem QW(W:World)(o:Obj):(W.alloc o).heap[W.heap.size]?=some o:=by
 show(W.heap.push o)[W.heap.size]?=_
 simp
theorem WO(W:World)(C:Array Value)(e:TypeId):(W.alloc (.cells C e)).shape? W.heap.size=some (e,C.size):=by
 simp only[World.shape?,QW]
theorem SU(W:World)(C:Array Value)(e:TypeId):(W.alloc (.cells C e)).freeze ⟨W.heap.size,C.size,none⟩ 1=W.alloc (.cells C e (C.size,C.size+1)):=by
 simp only[World.freeze,World.alloc]
 rw[if_neg (by decide)]
 congr 1
 apply Array.ext_getElem?
 intro j
 rw[Array.getElem?_modify]
 simp only[Array.getElem?_push]
 by_cases hj:W.heap.size=j
 ·subst hj;simp
 ·have:¬j=W.heap.size:=λh=>hj h.symm;simp[hj,this]
theorem YS(hr:Rel B0 G ι m w){src dst:TypeId}{x x' v:Value}(hx:AV ι x x'){m':Mem}(hn:m.size<m'.size->ι m.size=none)(h:Lt P m src dst x=some (v,m')):
  ∃ι' v' w',(convert src dst x').run P w= .ok v' w'/\AV ι' v v'/\Rel B0 G ι' m' w'/\Dd ι ι' m m' w w':=by
 unfold Lt at h
 split at h<;>try (simp at h;done)
 ·rename_i d k hs hd;split at h<;>simp at h;obtain⟨rfl,rfl⟩:=h;cases hx;exact⟨ι,_,w,by simp[convert,AU hs,AU hd,Conv.intToInt], .int _ _,hr,Dd.refl _ _ _⟩
 ·rename_i hs hd;split at h<;>simp at h;obtain⟨rfl,rfl⟩:=h;cases hx;exact⟨ι,_,w,by simp[convert,AU hs,AU hd], .string _,hr,Dd.refl _ _ _⟩
 ·rename_i e hs hd;split at h<;>simp at h;rename_i q hq;obtain⟨rfl,rfl⟩:=h;cases hx;replace hn:=hn (by simp);have hrd:=hr.drew;have hcap:q.size<=(Question.appendCap q.size 0 e).cut (w.tape w.drawn (.appendCap q.size 0 e)):=by simp[Question.cut]
  generalize hcp:(Question.appendCap q.size 0 e).cut (w.tape w.drawn (.appendCap q.size 0 e))=cp at hcap
  have hC:(q.data.map (λ(b:UInt8)=>Value.int .u8 (b.toNat:Int))++Array.replicate (cp - q.size) (Value.int .u8 0)).size=cp:=by
   simp only[Array.size_append,Array.size_map,Array.size_replicate];have:q.data.size=q.size:=rfl;omega
  have hlc:(q.data.toList.map λ(b:UInt8)=>Value.int .u8 (b.toNat:Int)).length=q.size:=by simp
  generalize hCC:(q.data.map (λ(b:UInt8)=>Value.int .u8 (b.toNat:Int))++Array.replicate (cp - q.size) (Value.int .u8 0))=C at hC;have hCl:C.toList=(q.data.toList.map λ(b:UInt8)=>Value.int .u8 (b.toNat:Int))++List.replicate (cp - q.size) (Value.int .u8 0):=by rw[←hCC];simp
  have hfz:=SU w.drew C e
  have hp:=Rel.push (k:=cp) (x:= .cells true (q.data.toList.map λ(b:UInt8)=>Value.int .u8 (b.toNat:Int))) (o:= .cells C e (C.size,C.size+1)) hrd.1 hn
   ⟨C,e,(C.size,C.size+1),QW w.drew _,hC,by rw[hlc];simpa using hcap,λi v hv=>by
    refine⟨v,?_,?_⟩
    ·rw[Nat.zero_add,←Array.getElem?_toList,hCl,List.getElem?_append_left]
     ·exact hv
     ·rcases Nat.lt_or_ge i (q.data.toList.map λ(b:UInt8)=>Value.int .u8 (b.toNat:Int)).length with h1|h1
      ·exact h1
      ·rw[List.getElem?_eq_none h1]at hv;cases hv
    ·have:=List.mem_of_getElem? hv;obtain⟨u,_,rfl⟩:=List.mem_map.1 this;exact .int _ _,λ_=>⟨hr.floor,λo ho h=>by simp only at ho h;omega⟩⟩
  refine⟨_, .slice (some ⟨w.drew.heap.size,0,none⟩) q.size cp,_,?_,?_,hp.1,hrd.2.trans hp.2⟩
  ·have e1:(Question.appendCap q.size 0 e).forced=false:=rfl;simp only[convert,Sem.run_bind,AU hs,AU hd,AU hq,Result.andThen_ok,Conv.stringToBytes,run_choose,e1,Bool.false_eq_true,if_false,hcp,World.drew_eq,hCC,De,markStringish,run_shape];have hsh:=WO w.drew C e;simp only[hsh,run_freeze,hfz];rfl
  ·have:=AV.loose (ι:=λb=>if b=m.size then some ⟨w.drew.heap.size,0,cp⟩else ι b) m.size 0 1 q.size q.size cp ⟨w.drew.heap.size,0,cp⟩ (by simp) hcap (by simp);simpa using this
 ·rename_i e hs hd;split at h<;>try (simp at h;done)
  rename_i he;split at h<;>try (simp at h;done)
  ·simp at h;obtain⟨rfl,rfl⟩:=h;cases hx;exact⟨ι,_,w,by simp[convert,AU hs,AU hd,AU he,Conv.bytesToString], .string _,hr,Dd.refl _ _ _⟩
  ·rename_i b off sp n cp;split at h<;>try (simp at h;done)
   rename_i c hc;split at h<;>simp at h;rename_i l hl;obtain⟨rfl,rfl⟩:=h
   have key:∀(a:Addr) (c':List Value),(loadCells a n).run P w= .ok c'.toArray w->B7 ι c c'->∀cp',(convert src dst (.slice (some a) n cp')).run P w= .ok (.string ⟨l.toArray⟩) w:=by
    intro a c' hlc hcr cp';have:=H2 (P:=P) (w:=w) c' l (Ki hcr hl) ByteArray.empty;simp only[convert,Sem.run_bind,AU hs,AU hd,AU he,Result.andThen_ok,Conv.bytesToString,hlc];rw[←Array.forIn_toList];have ht:c'.toArray.toList=c':=by simp
    rw[ht];have he2:(⟨(ByteArray.empty.data.toList++l).toArray⟩:ByteArray)=⟨l.toArray⟩:=rfl;rw[he2]at this
    first|rw[this];rfl|(simp only[this];rfl)|(erw [this];rfl)
   cases hx with
   |slc _ _ _ _ L hL=>
    obtain⟨c',h1,h2⟩:=Fl (P:=P) hr hL hc;exact⟨ι,_,w,key _ _ h1 h2 _, .string _,hr,Dd.refl _ _ _⟩
   |loose _ _ _ _ _ c₂ L hL hcc htot=>
    obtain⟨c',h1,h2⟩:=Fl (P:=P) hr hL hc;exact⟨ι,_,w,key _ _ h1 h2 _, .string _,hr,Dd.refl _ _ _⟩
   |loose0 _ _ _ o' c₂ L hL htot=>
    have:c= []:=by
     unfold Ck at hc;split at hc<;>try (simp at hc;done)
     split at hc<;>simp at hc;exact hc
    subst this;exact⟨ι,_,w,key _ [] (by simp[loadCells,loadCellsFrom]) .nil _, .string _,hr,Dd.refl _ _ _⟩
   |empty _ _ _ a=>
    have:c= []:=by
     unfold Ck at hc;split at hc<;>try (simp at hc;done)
     split at hc<;>simp at hc;exact hc
    subst this;exact⟨ι,_,w,key _ [] (by simp[loadCells,loadCellsFrom]) .nil _, .string _,hr,Dd.refl _ _ _⟩
theorem YT(hr:Rel B0 G ι m w){src dst:TypeId}{x x' v:Value}(hx:AV ι x x')(h:H3 P m src dst x=some v):
  ∃v',(convert src dst x').run P w= .ok v' w/\AV ι v v':=by
 unfold H3 at h
 split at h<;>try (simp at h;done)
 ·rename_i d k hs hd;split at h<;>simp at h;subst h;cases hx;exact⟨_,by simp[convert,AU hs,AU hd,Conv.intToInt], .int _ _⟩
 ·rename_i hs hd;split at h<;>simp at h;subst h;cases hx;exact⟨_,by simp[convert,AU hs,AU hd], .string _⟩
 ·rename_i e hs hd;split at h<;>try (simp at h;done)
  rename_i he;split at h<;>try (simp at h;done)
  ·simp at h;subst h;cases hx;exact⟨_,by simp[convert,AU hs,AU hd,AU he,Conv.bytesToString], .string _⟩
  ·rename_i b off sp n cp;split at h<;>try (simp at h;done)
   rename_i c hc;split at h<;>simp at h;rename_i l hl;subst h
   have key:∀(a:Addr) (c':List Value),(loadCells a n).run P w= .ok c'.toArray w->B7 ι c c'->∀cp',(convert src dst (.slice (some a) n cp')).run P w= .ok (.string ⟨l.toArray⟩) w:=by
    intro a c' hlc hcr cp';have:=H2 (P:=P) (w:=w) c' l (Ki hcr hl) ByteArray.empty;simp only[convert,Sem.run_bind,AU hs,AU hd,AU he,Result.andThen_ok,Conv.bytesToString,hlc];rw[←Array.forIn_toList];have ht:c'.toArray.toList=c':=by simp
    rw[ht];have he2:(⟨(ByteArray.empty.data.toList++l).toArray⟩:ByteArray)=⟨l.toArray⟩:=rfl;rw[he2]at this
    first|rw[this];rfl|(simp only[this];rfl)|(erw [this];rfl)
   cases hx with
   |slc _ _ _ _ L hL=>
    obtain⟨c',h1,h2⟩:=Fl (P:=P) hr hL hc;exact⟨_,key _ _ h1 h2 _, .string _⟩
   |loose _ _ _ _ _ c₂ L hL hcc htot=>
    obtain⟨c',h1,h2⟩:=Fl (P:=P) hr hL hc;exact⟨_,key _ _ h1 h2 _, .string _⟩
   |loose0 _ _ _ o' c₂ L hL htot=>
    have:c= []:=by
     unfold Ck at hc;split at hc<;>try (simp at hc;done)
     split at hc<;>simp at hc;exact hc
    subst this;exact⟨_,key _ [] (by simp[loadCells,loadCellsFrom]) .nil _, .string _⟩
   |empty _ _ _ a=>
    have:c= []:=by
     unfold Ck at hc;split at hc<;>try (simp at hc;done)
     split at hc<;>simp at hc;exact hc
    subst this;exact⟨_,key _ [] (by simp[loadCells,loadCellsFrom]) .nil _, .string _⟩
end
end Go.DI
namespace Go.DI
section
variable{P:Program}{K:TypeId->Bool}{G B0 n:Nat}{ι:Ren}{m:Mem}{w:World}{t:AE}{a:Act}
def Dy(ι:Ren)(x y:Nat):Prop:=∀b,x<=b->b<y->ι b=none
theorem Dy.sub{x y x' y':Nat}(h:Dy ι x y)(h1:x<=x')(h2:y'<=y):Dy ι x' y':=λb g1 g2=>h b (by omega) (by omega)
theorem Dy.stp{ι':Ren}{m m':Mem}{w w':World}{x y:Nat}(h:Dy ι x y)(s:Dd ι ι' m m' w w')(h1:m'.size<=x):Dy ι' x y:=λb g1 g2=>by
 rw[s.out b (.inr (by omega))]
 exact h b g1 g2
theorem Uj:∀{l l':List Value} {k:IntKind} {x r:Int},B7 ι l l'->minD l x=some r->(l'.foldlM Builtin.min2 (.int k x)).run P w= .ok (.int k r) w
 | [],_,k,x,r,hl,h=>by cases hl;simp[minD]at h;subst h;simp
 |v::l,_,k,x,r,hl,h=>by
  cases hl with
  |cons h0 t0=>
   cases v<;>simp only[minD]at h<;>try (simp at h;done)
   cases h0;simp only[List.foldlM_cons,Sem.run_bind,Builtin.min2,Sem.run_pure,Result.andThen_ok];exact Uj t0 h
theorem Uk:∀{l l':List Value} {k:IntKind} {x r:Int},B7 ι l l'->maxD l x=some r->(l'.foldlM Builtin.max2 (.int k x)).run P w= .ok (.int k r) w
 | [],_,k,x,r,hl,h=>by cases hl;simp[maxD]at h;subst h;simp
 |v::l,_,k,x,r,hl,h=>by
  cases hl with
  |cons h0 t0=>
   cases v<;>simp only[maxD]at h<;>try (simp at h;done)
   cases h0;simp only[List.foldlM_cons,Sem.run_bind,Builtin.max2,Sem.run_pure,Result.andThen_ok];exact Uk t0 h
theorem dy(hr:Rel B0 G ι m w){s ty:TypeId}{x x' v:Value}(hx:AV ι x x')(h:Q4 P m s x=some v):(Builtin.len_ #[s] ty #[x']).run P w= .ok v w/\AV ι v v:=by
 unfold Q4 at h
 split at h<;>try (simp at h;done)
 ·rename_i hu;split at h<;>simp at h;subst h;cases hx;exact⟨by simp[Builtin.len_,AU hu,goInt], .int _ _⟩
 ·rename_i hu;simp at h;subst h;refine⟨?_, .int _ _⟩;simp only[Builtin.len_,Sem.run_bind,AU hu,Result.andThen_ok,List.getElem?_toArray,List.getElem?_cons_zero];cases x'<;>simp[goInt]
 ·rename_i hu;split at h<;>simp at h;subst h;refine⟨?_, .int _ _⟩;cases hx<;>simp[Builtin.len_,AU hu,goInt]
 ·rename_i hu;split at h<;>try (simp at h;done)
  ·simp at h;subst h;cases hx;exact⟨by simp[Builtin.len_,AU hu,goInt], .int _ _⟩
  ·rename_i r;split at h<;>simp at h;rename_i own es c hg;subst h;have hlt:=hr.get_lt (b:=r) (by rw[hg];simp);cases hx with
   |map _ L hL=>
    have hb:=hr.blk r L hlt hL;rw[hg]at hb;obtain⟨res,h1,h2,h3⟩:=hb;have hgo:(getObj L.block).run P w= .ok (.map res c) w:=by simp[getObj,Sem.run,h1]
    have:=h2.length;exact⟨by simp[Builtin.len_,AU hu,goInt,hgo,this], .int _ _⟩
theorem Q0(hK:Plain P K)(hr:Rel B0 G ι m w)(ht:BV ι n t a){o:Oper}{v:Value}(h:BN P K G t m o.op=some v):
  ∃v',(execOp a.eval o).run P w= .ok (.value v') w/\AV ι v v':=by
 unfold BN at h
 split at h<;>try (simp at h;done)
 ·rename_i x ho;exact⟨_,by simp[execOp,ho],BR hr ht h⟩
 ·rename_i x ho;exact⟨_,by simp[execOp,ho],BR hr ht h⟩
 ·rename_i c x y ho;split at h<;>try (simp at h;done)
  ·rename_i hc;have:=(BR hr ht hc).inv_bool;exact⟨_,by simp[execOp,ho,this,asBool],BR hr ht h⟩
  ·rename_i hc;have:=(BR hr ht hc).inv_bool;exact⟨_,by simp[execOp,ho,this,asBool],BR hr ht h⟩
 ·rename_i ty x ho;split at h<;>try (simp at h;done)
  rename_i u hu;obtain⟨v',h1,h2⟩:=Q7 (P:=P) hr (BR hr ht hu) (YW h);exact⟨v',by simp[execOp,ho,h1],h2⟩
 ·rename_i x ho;split at h<;>simp at h
  ·rename_i ad hx;subst h;have:=BR hr ht hx;refine⟨a.eval x,?_,this⟩;simp only[execOp,ho]
   revert this
   cases a.eval x<;>intro this<;>cases this<;>rfl
  ·rename_i f fs cs hx;subst h;have:=BR hr ht hx;obtain⟨a',b',e1,_,_⟩:=this.inv_func;rw[e1]at this;refine⟨_,?_,this⟩;simp[execOp,ho,e1]
 ·rename_i op ty x y yt ho;split at h<;>try (simp at h;done)
  rename_i u1 u2 h1 h2;obtain⟨g1,g2⟩:=Yi (BR hr ht h1) (BR hr ht h2) h;have:=Yj (w:=w) (o1:=x) (o2:=y) hK g1;refine⟨v,?_,g2⟩;simp only[execOp,ho];rw[Sem.run_bind,this];rfl
 ·rename_i op ty x ho;split at h<;>try (simp at h;done)
  rename_i u hu;obtain⟨g1,g2⟩:=jt (P:=P) (w:=w) (BR hr ht hu) h;exact⟨v,by simp[execOp,ho,g1],g2⟩
 ·rename_i f fs cs ho;split at h<;>simp at h;rename_i l1 l2 h1 h2;subst h;refine⟨.func (.func f) (fs.map a.eval) (cs.map a.eval),by simp[execOp,ho,Instr.makeFunc],?_⟩;have g1:=Hv hr ht h1;have g2:=Hv hr ht h2;have e1:(fs.map a.eval).toList=fs.toList.map a.eval:=by simp
  have e2:(cs.map a.eval).toList=cs.toList.map a.eval:=by simp
  have k1:=B7.arr (a:=l1.toArray) (a':=fs.map a.eval) (ι:=ι) (by rw[e1];exact g1);have k2:=B7.arr (a:=l2.toArray) (a':=cs.map a.eval) (ι:=ι) (by rw[e2];exact g2);exact .func _ _ _ _ _ k1.1 k2.1 k1.2 k2.2
 ·rename_i s x f ho;split at h<;>try (simp at h;done)
  rename_i u hu;obtain⟨v',h1,h2⟩:=NV (P:=P) (w:=w) (BR hr ht hu) h;exact⟨v',by simp[execOp,ho,h1],h2⟩
 ·rename_i s x f ho;split at h<;>try (simp at h;done)
  rename_i u hu;obtain⟨v',h1,h2⟩:=Wi (P:=P) (w:=w) (BR hr ht hu) h;exact⟨v',by simp[execOp,ho,h1],h2⟩
 ·rename_i s x i ho;split at h<;>try (simp at h;done)
  rename_i u1 u2 h1 h2;obtain⟨v',g1,g2⟩:=NW (P:=P) (w:=w) (BR hr ht h1) h
  have hi:a.eval i=u2:=by
   have:=BR hr ht h2;unfold EI at h;split at h<;>try (simp at h;done)
   exact this.inv_int
  exact⟨v',by simp[execOp,ho,hi,g1],g2⟩
 ·rename_i s x i ho;split at h<;>try (simp at h;done)
  rename_i u1 u2 h1 h2;obtain⟨v',g1,g2⟩:=Wj (P:=P) (w:=w) (BR hr ht h1) h
  have hi:a.eval i=u2:=by
   have:=BR hr ht h2;unfold PC at h;split at h<;>try (simp at h;done)
   exact this.inv_int
  exact⟨v',by simp[execOp,ho,hi,g1],g2⟩
 ·rename_i s x k ok ho;split at h<;>try (simp at h;done)
  rename_i u1 u2 h1 h2;obtain⟨v',g1,g2⟩:=Sh (P:=P) (w:=w) hK hr (BR hr ht h1) (BR hr ht h2) h;exact⟨v',by simp[execOp,ho,g1],g2⟩
 ·rename_i x i ho;split at h<;>try (simp at h;done)
  rename_i vs hx;obtain⟨vs',e1,hvs⟩:=(BR hr ht hx).inv_tuple;obtain⟨y,hy,hry⟩:=hvs.get h;have hy':vs'[i]?=some y:=by simpa using hy
  exact⟨y,by simp[execOp,ho,e1,Instr.extract,hy'],hry⟩
 ·rename_i ty parts ho;split at h<;>try (simp at h;done)
  rename_i ps hps;have hp:=Hf hr ht hps;obtain⟨v',g1,g2⟩:=We (P:=P) (w:=w) (ps':=parts.map λx=>(x.1,a.eval x.2)) (by simpa using hp) h;exact⟨v',by simp[execOp,ho,g1],g2⟩
 ·rename_i ty x lo hi mx ho;split at h<;>try (simp at h;done)
  rename_i u l1 l2 l3 hu h1 h2 h3;obtain⟨v',g1,g2⟩:=Wk (P:=P) (w:=w) (BR hr ht hu) (KR hr ht h1) (KR hr ht h2) (KR hr ht h3) h;exact⟨v',by simp[execOp,ho,g1],g2⟩
 ·rename_i s d x ho;split at h<;>try (simp at h;done)
  rename_i u hu;obtain⟨v',g1,g2⟩:=YT (P:=P) hr (BR hr ht hu) h;exact⟨v',by simp only[execOp,ho,Sem.run_bind,g1,Result.andThen_ok,Sem.run_pure],g2⟩
 ·rename_i args tys ho;split at h<;>try (simp at h;done)
  rename_i x ty hx ht';split at h<;>try (simp at h;done)
  rename_i u hu;have e1:args= #[x]:=Array.ext' (by simpa using hx);have e2:tys= #[ty]:=Array.ext' (by simpa using ht');subst e1 e2;obtain⟨g1,g2⟩:=dy (P:=P) (ty:=o.type) hr (BR hr ht hu) h;exact⟨v,by simp[execOp,ho,resolve,invoke,builtin,g1],g2⟩
 ·rename_i args tys ho;split at h<;>try (simp at h;done)
  rename_i k x l hx;split at h<;>simp at h;rename_i r hm;subst h;have hv:=Hv hr ht hx;generalize hq:args.toList.map a.eval=q at hv;cases hv with
  |cons h0 t0=>
   cases h0;have e1:(args.map a.eval).toList=args.toList.map a.eval:=by simp
   refine⟨_,?_, .int _ _⟩;simp only[execOp,ho,resolve,Sem.run_bind,Sem.run_pure,Result.andThen_ok,invoke,builtin,Builtin.min_,e1,hq];rw[Uj t0 hm];rfl
 ·rename_i args tys ho;split at h<;>try (simp at h;done)
  rename_i k x l hx;split at h<;>simp at h;rename_i r hm;subst h;have hv:=Hv hr ht hx;generalize hq:args.toList.map a.eval=q at hv;cases hv with
  |cons h0 t0=>
   cases h0;have e1:(args.map a.eval).toList=args.toList.map a.eval:=by simp
   refine⟨_,?_, .int _ _⟩;simp only[execOp,ho,resolve,Sem.run_bind,Sem.run_pure,Result.andThen_ok,invoke,builtin,Builtin.max_,e1,hq];rw[Uk t0 hm];rfl
end
end Go.DI
namespace Go.DI
section
variable{P:Program}{K:TypeId->Bool}{G B0 n:Nat}{ι:Ren}{m:Mem}{w:World}{t:AE}{a:Act}
abbrev CD:=FuncId->List Value->Mem->Option (Value×Mem)
def Dr(P:Program)(B0 G:Nat)(f:FuncId)(args:List Value)(m:Mem)(v:Value)(m':Mem):Prop:=
 ∀(ι:Ren) (w:World) (args':List Value),Rel B0 G ι m w->Dy ι m.size m'.size->B7 ι args args'->
  Calls P f args'.toArray w λe w'=>∃v' ι',e= .returned v'/\AV ι' v v'/\Rel B0 G ι' m' w'/\Dd ι ι' m m' w w'
structure CT(P:Program)(B0 G:Nat)(cf:CD):Prop where
 size:∀f args m v m',cf f args m=some (v,m')->m.size<=m'.size
 ok:∀f args m v m',cf f args m=some (v,m')->Dr P B0 G f args m v m'
 body:∀f args m v m',cf f args m=some (v,m')→∃fn,P.funcs[f]?=some fn∧fn.body.isNone=false∧(fn.name== "runtime.NumGoroutine")=false
theorem H4{b off:Nat}{vs:List Value}{m':Mem}(h:Df m b off vs=some m'):m'.size=m.size:=by
 unfold Df at h
 split at h<;>try (simp at h;done)
 split at h<;>try (simp at h;done)
 split at h<;>simp at h
 subst h;rfl
theorem QX{s:TypeId}{x v:Value}{m':Mem}(h:Bx P m s v x=some m'):m'.size=m.size:=by
 unfold Bx at h
 split at h<;>try (simp at h;done)
 split at h<;>try (simp at h;done)
 split at h<;>try (simp at h;done)
 exact H4 h
theorem HK{s:TypeId}{x k v:Value}{m':Mem}(h:C2 P K m s x k v=some m'):m'.size=m.size:=by
 unfold C2 at h
 split at h<;>try (simp at h;done)
 split at h<;>try (simp at h;done)
 split at h<;>try (simp at h;done)
 split at h<;>try (simp at h;done)
 split at h<;>try (simp at h;done)
 ·split at h<;>try (simp at h;done)
  split at h<;>simp at h;subst h;rfl
 ·simp at h;subst h;rfl
theorem PB{tS tX:TypeId}{s x v:Value}{m':Mem}(h:Bp P m tS tX s x=some (v,m')):m.size<=m'.size:=by
 unfold Bp at h
 split at h<;>try (simp at h;done)
 split at h<;>try (simp at h;done)
 split at h<;>try (simp at h;done)
 split at h<;>try (simp at h;done)
 split at h
 ·split at h
  ·split at h<;>simp at h;rw[h.2];exact Nat.le_refl _
  ·split at h
   ·simp at h;rw[h.2];exact Nat.le_refl _
   ·split at h<;>simp at h;rename_i hst;have hst:=H0 hst;rw[←h.2,H4 hst];exact Nat.le_refl _
 ·split at h<;>try (simp at h;done)
  split at h<;>try (simp at h;done)
  split at h<;>try (simp at h;done)
  split at h
  ·split at h<;>try (simp at h;done)
   split at h<;>simp at h;rw[←h.2];simp
  ·simp at h;rw[←h.2];simp
theorem SV{tD:TypeId}{s x v:Value}{m':Mem}(h:Lr P m tD s x=some (v,m')):m.size<=m'.size:=by
 unfold Lr at h
 split at h<;>try (simp at h;done)
 split at h<;>try (simp at h;done)
 split at h<;>try (simp at h;done)
 split at h<;>try (simp at h;done)
 split at h
 ·simp at h;rw[h.2];exact Nat.le_refl _
 ·split at h
  ·simp at h;rw[h.2];exact Nat.le_refl _
  ·split at h<;>simp at h;rename_i hst;rw[←h.2,H4 hst];exact Nat.le_refl _
theorem SW{s d:TypeId}{x v:Value}{m':Mem}(h:Lt P m s d x=some (v,m')):m.size<=m'.size:=by
 unfold Lt at h
 split at h<;>try (simp at h;done)
 ·split at h<;>simp at h;rw[h.2];exact Nat.le_refl _
 ·split at h<;>simp at h;rw[h.2];exact Nat.le_refl _
 ·split at h<;>simp at h;rw[←h.2];simp
 ·split at h<;>try (simp at h;done)
  split at h<;>try (simp at h;done)
  ·simp at h;rw[h.2];exact Nat.le_refl _
  ·split at h<;>try (simp at h;done)
   split at h<;>simp at h;rw[h.2];exact Nat.le_refl _
theorem QY{cf:CD}(hcf:∀f args m v m',cf f args m=some (v,m')->m.size<=m'.size){o:Op}{v:Value}{m':Mem}(h:Ce P K G cf t m o=some (v,m')):m.size<=m'.size:=by
 unfold Ce at h
 split at h<;>try (simp at h;done)
 ·split at h<;>try (simp at h;done)
  split at h<;>simp at h;rename_i hs;rw[←h.2,QX hs];exact Nat.le_refl _
 ·split at h<;>try (simp at h;done)
  split at h<;>simp at h;rename_i hs;rw[←h.2,HK hs];exact Nat.le_refl _
 ·split at h<;>try (simp at h;done)
  split at h<;>simp at h;rename_i hs;rw[←h.2,HK hs];exact Nat.le_refl _
 ·split at h<;>try (simp at h;done)
  exact SW h
 ·split at h<;>try (simp at h;done)
  split at h<;>try (simp at h;done)
  exact PB h
 ·split at h<;>try (simp at h;done)
  split at h<;>try (simp at h;done)
  exact SV h
 ·split at h<;>try (simp at h;done)
  exact hcf _ _ _ _ _ h
theorem Lu{cf:CD}(hcf:∀f args m v m',cf f args m=some (v,m')->m.size<=m'.size){o:Op}{v:Value}{m':Mem}(h:Dj P K G cf t m o=some (v,m')):m.size<=m'.size:=by
 unfold Dj at h
 split at h
 ·split at h<;>simp at h;rw[h.2];exact Nat.le_refl _
 ·split at h<;>simp at h;rw[←h.2];simp
 ·exact QY hcf h
theorem QZ(hK:Plain P K){cf:CD}(hcf:CT P B0 G cf)(hr:Rel B0 G ι m w)(ht:BV ι n t a){o:Oper}{v:Value}{m':Mem}(h:Ce P K G cf t m o.op=some (v,m'))(hf:Dy ι m.size m'.size)
  {next:Act->World->Prop} {Q:Exit->Act->World->Prop} (hnext:∀ι' v' w',AV ι' v v'->Rel B0 G ι' m' w'->Dd ι ι' m m' w w'->next (a.put o.dst v') w'):o.wp P a w next Q:=by
 have hn:m.size<m'.size->ι m.size=none:=λh=>hf _ (Nat.le_refl _) h
 unfold Oper.wp
 unfold Ce at h
 split at h<;>try (simp at h;done)
 ·rename_i ty x y ho;split at h<;>try (simp at h;done)
  rename_i u1 u2 h1 h2;split at h<;>simp at h;rename_i m₁ hs;obtain⟨rfl,rfl⟩:=h;obtain⟨w',g1,g2,g3⟩:=WQ (P:=P) hr (BR hr ht h1) (BR hr ht h2) hs;simp only[execOp,ho,Sem.run_bind,g1,Result.andThen_ok,Sem.run_pure];exact hnext ι _ w' (AV.undef _) g2 g3
 ·rename_i ty x k y ho;split at h<;>try (simp at h;done)
  rename_i u1 u2 u3 h1 h2 h3;split at h<;>simp at h;rename_i m₁ hs;obtain⟨rfl,rfl⟩:=h;obtain⟨w',g1,g2,g3⟩:=IV (P:=P) hK hr (BR hr ht h1) (BR hr ht h2) (BR hr ht h3) hs;simp only[execOp,ho,Sem.run_bind,g1,Result.andThen_ok,Sem.run_pure];exact hnext ι _ w' (AV.undef _) g2 g3
 ·rename_i ty x k y ho;split at h<;>try (simp at h;done)
  rename_i u1 u2 u3 h1 h2 h3;split at h<;>simp at h;rename_i m₁ hs;obtain⟨rfl,rfl⟩:=h;obtain⟨w',g1,g2,g3⟩:=IV (P:=P) hK hr (BR hr ht h1) (BR hr ht h2) (BR hr ht h3) hs;simp only[execOp,ho,Sem.run_bind,g1,Result.andThen_ok,Sem.run_pure];exact hnext ι _ w' (AV.undef _) g2 g3
 ·rename_i s d x ho;split at h<;>try (simp at h;done)
  rename_i u hu;obtain⟨ι',v',w',g1,g2,g3,g4⟩:=YS (P:=P) hr (BR hr ht hu) hn h;simp only[execOp,ho,Sem.run_bind,g1,Result.andThen_ok,Sem.run_pure];exact hnext ι' v' w' g2 g3 g4
 ·rename_i args tys ho;split at h<;>try (simp at h;done)
  rename_i x y tS tX hx ht';split at h<;>try (simp at h;done)
  rename_i u1 u2 h1 h2;have e1:args= #[x,y]:=Array.ext' (by simpa using hx);have e2:tys= #[tS,tX]:=Array.ext' (by simpa using ht');subst e1 e2;obtain⟨ι',v',w',g1,g2,g3,g4⟩:=SS (P:=P) (ty:=o.type) hr (BR hr ht h1) (BR hr ht h2) hn h;simp only[execOp,ho,resolve,Sem.run_bind,Sem.run_pure,Result.andThen_ok,invoke,builtin,List.map_toArray,List.map_cons,List.map_nil,g1];exact hnext ι' v' w' g2 g3 g4
 ·rename_i args tys ho;split at h<;>try (simp at h;done)
  rename_i x y tS tX hx ht';split at h<;>try (simp at h;done)
  rename_i u1 u2 h1 h2;have e1:args= #[x,y]:=Array.ext' (by simpa using hx);have e2:tys= #[tS,tX]:=Array.ext' (by simpa using ht');subst e1 e2;obtain⟨v',w',g1,g2,g3,g4⟩:=YR (P:=P) (tX:=tX) (ty:=o.type) hr (BR hr ht h1) (BR hr ht h2) h;simp only[execOp,ho,resolve,Sem.run_bind,Sem.run_pure,Result.andThen_ok,invoke,builtin,List.map_toArray,List.map_cons,List.map_nil,g1];exact hnext ι v' w' g2 g3 g4
 ·rename_i f args tys ho;split at h<;>try (simp at h;done)
  rename_i g first captured vs h1 h2
  obtain⟨fn,hfn,hbody,hname⟩:=hcf.body _ _ _ _ _ h;obtain⟨a',b',e1,g1,g2⟩:=(BR hr ht h1).inv_func;have g3:=Hv hr ht h2;have hcall:=hcf.ok _ _ _ _ _ h ι w (a'.toList++(args.toList.map a.eval++b'.toList)) hr hf (g1.append (g3.append g2));have earr:(a'.toList++(args.toList.map a.eval++b'.toList)).toArray=a'++args.map a.eval++b':=by apply Array.ext';simp
  rw[earr]at hcall;simp only[execOp,ho,resolve,e1,Deferred.ofValue,Sem.run_bind,Sem.run_pure,Result.andThen_ok,invoke,callFunc,run_program,hfn,hname,hbody,Bool.false_eq_true,if_false];refine Calls.mono hcall λe w' he=>?_;obtain⟨v',ι',rfl,g4,g5,g6⟩:=he;exact hnext ι' v' w' g4 g5 g6
theorem gD(hK:Plain P K){cf:CD}(hcf:CT P B0 G cf)(hr:Rel B0 G ι m w)(ht:BV ι n t a){o:Oper}{v:Value}{m':Mem}(h:Dj P K G cf t m o.op=some (v,m'))(hf:Dy ι m.size m'.size)
  {next:Act->World->Prop} {Q:Exit->Act->World->Prop} (hnext:∀ι' v' w',AV ι' v v'->Rel B0 G ι' m' w'->Dd ι ι' m m' w w'->next (a.put o.dst v') w'):o.wp P a w next Q:=by
 unfold Dj at h
 split at h
 ·split at h<;>simp at h;rename_i u hu;obtain⟨rfl,rfl⟩:=h;obtain⟨v',g1,g2⟩:=Q0 hK hr ht hu;unfold Oper.wp;rw[g1];exact hnext ι v' w g2 hr (Dd.refl _ _ _)
 ·split at h<;>simp at h;rename_i x q hx;obtain⟨rfl,rfl⟩:=h;obtain⟨ι',v',w',g1,g2,g3,g4⟩:=WR (P:=P) hr ht (hf _ (Nat.le_refl _) (by simp)) hx;unfold Oper.wp;rw[g1];exact hnext ι' v' w' g2 g3 g4
 ·exact QZ hK hcf hr ht h hf hnext
theorem BV.putD(ht:BV ι n t a){dst:Option Tmp}(hd:Gb n dst=true){v v':Value}(hv:AV ι v v'):BV ι n (putD t dst v) (a.put dst v'):=by
 cases dst with
 |none=>exact ht
 |some d=>exact ht.put (by simpa[Gb]using hd) hv
theorem KJ(ht:BV ι n t a)(ops:Array Oper):EG ops.toList t=yielded ops a.tmps:=by
 funext j
 unfold EG yielded
 rw[Array.getElem?_toList]
 cases hj:ops[j]? with
 |none=>rfl
 |some o=>
  simp only[Option.bind_some];cases hd:o.dst with
  |none=>rfl
  |some d=>
   simp only[Option.bind_some];have h:=ht.2 d;rw[Array.getD_eq_getD_getElem?]at h;cases hg:a.tmps[d]? with
   |none=>
    rw[hg]at h;simp only[Option.getD_none]at h;generalize t.at d=q at h;cases h<;>rfl
   |some u=>
    rw[hg]at h;simp only[Option.getD_some]at h;generalize t.at d=q at h;cases h<;>rfl
theorem Gc{cf:CD}(hcf:∀f args m v m',cf f args m=some (v,m')->m.size<=m'.size){ops:List Oper}:∀(l:List Oper) (t:AE) (m:Mem) (t':AE) (m':Mem),FF P K G cf n ops l t m=some (t',m')->m.size<=m'.size
 | [],t,m,t',m',h=>by simp[FF]at h;rw[h.2];exact Nat.le_refl _
 |o::l,t,m,t',m',h=>by
  simp only[FF]at h;split at h<;>try (simp at h;done)
  split at h
  ·split at h<;>try (simp at h;done)
   rename_i v m₁ hv;exact Nat.le_trans (Lu hcf hv) (Gc hcf l _ _ _ _ h)
  ·exact Gc hcf l _ _ _ _ h
def DZ(B0 G n:Nat)(ι:Ren)(m:Mem)(w:World)(a:Act)(t':AE)(m':Mem)(a':Act)(w':World):Prop:=
 ∃ι',BV ι' n t' a'/\Rel B0 G ι' m' w'/\Dd ι ι' m m' w w'/\a'.defers=a.defers
theorem DZ.trans{ι₁:Ren}{m₁ m₂:Mem}{w₁ w₂:World}{a₁ a₂:Act}{t₂:AE}(s:Dd ι ι₁ m m₁ w w₁)(hd:a₁.defers=a.defers)(h:DZ B0 G n ι₁ m₁ w₁ a₁ t₂ m₂ a₂ w₂):DZ B0 G n ι m w a t₂ m₂ a₂ w₂:=by
 obtain⟨ι',g1,g2,g3,g4⟩:=h
 exact⟨ι',g1,g2,s.trans g3,g4.trans hd⟩
theorem put_defers(a:Act)(d:Option Tmp)(v:Value):(a.put d v).defers=a.defers:=by cases d<;>rfl
theorem Lv(hK:Plain P K){cf:CD}(hcf:CT P B0 G cf){ops:Array Oper}{Q:Exit->Act->World->Prop}:∀(l:List Oper) (i:Nat),(∀j,l[j]?=ops[i+j]?)->∀(ι:Ren) (t:AE) (m:Mem) (w:World) (a:Act) (t':AE) (m':Mem),
  FF P K G cf n ops.toList l t m=some (t',m')->Rel B0 G ι m w->BV ι n t a->Dy ι m.size m'.size->
  (∀a' w',DZ B0 G n ι m w a t' m' a' w'->Q .normal a' w')->wpOps P ops Q (List.range' i l.length) a w
 | [],i,hl,ι,t,m,w,a,t',m',h,hr,ht,hf,hQ=>by
  simp[FF]at h;obtain⟨rfl,rfl⟩:=h;simp only[List.length_nil,List.range'_zero,wpOps];exact hQ a w ⟨ι,ht,hr,Dd.refl _ _ _,rfl⟩
 |o::l,i,hl,ι,t,m,w,a,t',m',h,hr,ht,hf,hQ=>by
  simp only[FF]at h;split at h<;>try (simp at h;done)
  rename_i hd;have ho:ops[i]?=some o:=by have:=hl 0;simpa using this.symm
  have hl':∀j,l[j]?=ops[i+1+j]?:=λj=>by have:=hl (j+1);simp at this;rw[this];congr 1;omega
  rw[List.length_cons,List.range'_succ];simp only[wpOps,ho];rw[KJ ht]at h;split at h
  ·rename_i hw;rw[if_pos hw];split at h<;>try (simp at h;done)
   rename_i v m₁ hv;have s1:=Lu hcf.size hv;have s2:=Gc hcf.size _ _ _ _ _ h;refine .inl (gD hK hcf hr ht hv (hf.sub (Nat.le_refl _) s2) λι' v' w' g1 g2 g3=>?_);refine Lv hK hcf l (i+1) hl' ι' _ m₁ w' _ t' m' h g2 ((ht.mono g3.ext).putD hd g1) ((hf.sub s1 (Nat.le_refl _)).stp g3 (Nat.le_refl _)) λa' w'' ha=>hQ a' w'' ?_;exact DZ.trans g3 (put_defers _ _ _) ha
  ·rename_i hw;rw[if_neg hw];refine Lv hK hcf l (i+1) hl' ι _ m w _ t' m' h hr (ht.putD hd (AV.undef _)) hf λa' w'' ha=>hQ a' w'' ?_;exact DZ.trans (Dd.refl _ _ _) (put_defers _ _ _) ha
theorem WS(hK:Plain P K){cf:CD}(hcf:CT P B0 G cf){ops:Array Oper}{id:Nat}{Q:Exit->Act->World->Prop}{t':AE}{m':Mem}
  (h:FF P K G cf n ops.toList ops.toList t m=some (t',m')) (hr:Rel B0 G ι m w) (ht:BV ι n t a) (hf:Dy ι m.size m'.size)
  (hQ:∀a' w',DZ B0 G n ι m w a t' m' a' w'->Q .normal a' w'):(Code.region id ops false).wp P Q a w:=by
 refine wp_region ?_
 have:=Lv (Q:=Q) hK hcf (ops:=ops) ops.toList 0 (λj=>by simp) ι t m w a t' m' h hr ht hf hQ
 rw[List.range_eq_range']
 simpa using this
def YU(P:Program)(B0 G n:Nat)(dr:List Oper->AE->Mem->Option (AE×Mem)):Prop:=
 (∀ops t m t' m',dr ops t m=some (t',m')->m.size<=m'.size)/\
 ∀(ops:Array Oper) (id:Nat) (ι:Ren) (t:AE) (m:Mem) (w:World) (a:Act) (t':AE) (m':Mem) (Q:Exit->Act->World->Prop),
  dr ops.toList t m=some (t',m')->Rel B0 G ι m w->BV ι n t a->Dy ι m.size m'.size->
  (∀a' w',DZ B0 G n ι m w a t' m' a' w'->Q .normal a' w')->(Code.region id ops true).wp P Q a w
def Ex.to:Ex->Exit
 | .normal=> .normal
 | .exit id=> .exit id
 | .ret=> .ret
theorem Ih{body:AE->Mem->Option (Ex×AE×Mem)}(hb:∀t m e t' m',body t m=some (e,t',m')->m.size<=m'.size):∀(k:Nat) (t:AE) (m:Mem) (e:Ex) (t':AE) (m':Mem),B2 body k t m=some (e,t',m')->m.size<=m'.size
 |0,t,m,e,t',m',h=>by simp[B2]at h
 |k+1,t,m,e,t',m',h=>by
  simp only[B2]at h;split at h
  ·rename_i t₁ m₁ h1;exact Nat.le_trans (hb _ _ _ _ _ h1) (Ih hb k _ _ _ _ _ h)
  ·exact hb _ _ _ _ _ h
theorem Gu{cf:CD}(hcf:∀f args m v m',cf f args m=some (v,m')->m.size<=m'.size){dr:List Oper->AE->Mem->Option (AE×Mem)}(hdr:∀ops t m t' m',dr ops t m=some (t',m')->m.size<=m'.size){k:Nat}:
  ∀(c:Code) (t:AE) (m:Mem) (e:Ex) (t':AE) (m':Mem),AH P K G cf dr n k c t m=some (e,t',m')->m.size<=m'.size:=by
 intro c
 induction c with
 |skip=>intro t m e t' m' h;simp[AH]at h;rw[h.2.2];exact Nat.le_refl _
 |label l=>intro t m e t' m' h;simp[AH]at h;rw[h.2.2];exact Nat.le_refl _
 |region id ops draw=>
  intro t m e t' m' h;simp only[AH]at h;split at h<;>simp at h;rename_i t₁ m₁ h1;rw[←h.2.2];cases draw
  ·exact Gc hcf _ _ _ _ _ h1
  ·exact hdr _ _ _ _ _ h1
 |seq x y ihx ihy=>
  intro t m e t' m' h;simp only[AH]at h;split at h
  ·rename_i t₁ m₁ h1;exact Nat.le_trans (ihx _ _ _ _ _ h1) (ihy _ _ _ _ _ h)
  ·exact ihx _ _ _ _ _ h
 |cond c x y ihx ihy=>
  intro t m e t' m' h;simp only[AH]at h;split at h<;>try (simp at h;done)
  ·exact ihx _ _ _ _ _ h
  ·exact ihy _ _ _ _ _ h
 |block id c ih=>
  intro t m e t' m' h;simp only[AH]at h;split at h
  ·rename_i id' t₁ m₁ h1;split at h<;>simp at h<;>rw[←h.2.2] <;>exact ih _ _ _ _ _ h1
  ·exact ih _ _ _ _ _ h
 |loop c ih=>intro t m e t' m' h;simp only[AH]at h;exact Ih (λt m e t' m' h=>ih t m e t' m' h) _ _ _ _ _ _ h
 |exit id=>intro t m e t' m' h;simp[AH]at h;rw[h.2.2];exact Nat.le_refl _
 |ret=>intro t m e t' m' h;simp[AH]at h;rw[h.2.2];exact Nat.le_refl _
 |rangeFunc=>intro t m e t' m' h;simp[AH]at h
 |scope c ih=>intro t m e t' m' h;simp only[AH]at h;exact ih _ _ _ _ _ h
 |goto=>intro t m e t' m' h;simp[AH]at h
 |refuse=>intro t m e t' m' h;simp[AH]at h
def ji(P:Program)(B0 G n:Nat)(c:Code)(t:AE)(m:Mem)(e:Ex)(t':AE)(m':Mem):Prop:=
 ∀(ι:Ren) (w:World) (a:Act) (Q:Exit->Act->World->Prop),Rel B0 G ι m w->BV ι n t a->Dy ι m.size m'.size->(∀a' w',DZ B0 G n ι m w a t' m' a' w'->Q e.to a' w')->c.wp P Q a w
theorem Gv(hK:Plain P K){cf:CD}(hcf:CT P B0 G cf){dr:List Oper->AE->Mem->Option (AE×Mem)}(hdr:YU P B0 G n dr){k:Nat}:
  ∀(c:Code) (t:AE) (m:Mem) (e:Ex) (t':AE) (m':Mem),AH P K G cf dr n k c t m=some (e,t',m')->ji P B0 G n c t m e t' m':=by
 intro c
 have hsz:=λc=>Gu (P:=P) (K:=K) (G:=G) (n:=n) (k:=k) hcf.size hdr.1 c
 induction c with
 |skip=>intro t m e t' m' h;simp[AH]at h;obtain⟨rfl,rfl,rfl⟩:=h;intro ι w a Q hr ht hf hQ;exact wp_skip (hQ a w ⟨ι,ht,hr,Dd.refl _ _ _,rfl⟩)
 |label l=>intro t m e t' m' h;simp[AH]at h;obtain⟨rfl,rfl,rfl⟩:=h;intro ι w a Q hr ht hf hQ;exact wp_label (hQ a w ⟨ι,ht,hr,Dd.refl _ _ _,rfl⟩)
 |region id ops draw=>
  intro t m e t' m' h;simp only[AH]at h;split at h<;>simp at h;rename_i t₁ m₁ h1;obtain⟨rfl,rfl,rfl⟩:=h;intro ι w a Q hr ht hf hQ;cases draw
  ·exact WS hK hcf h1 hr ht hf hQ
  ·exact hdr.2 ops id ι t m w a _ _ Q h1 hr ht hf hQ
 |seq x y ihx ihy=>
  intro t m e t' m' h;simp only[AH]at h;intro ι w a Q hr ht hf hQ;split at h
  ·rename_i t₁ m₁ h1;have s1:=hsz x _ _ _ _ _ h1;have s2:=hsz y _ _ _ _ _ h;refine wp_seq (ihx _ _ _ _ _ h1 ι w a _ hr ht (hf.sub (Nat.le_refl _) s2) λa₁ w₁ ha=>?_);obtain⟨ι₁,g1,g2,g3,g4⟩:=ha;simp only[Ex.to,Exit.then];exact ihy _ _ _ _ _ h ι₁ w₁ a₁ Q g2 g1 ((hf.sub s1 (Nat.le_refl _)).stp g3 (Nat.le_refl _)) λa₂ w₂ ha₂=>hQ a₂ w₂ (DZ.trans g3 g4 ha₂)
  ·rename_i hne;refine wp_seq (ihx _ _ _ _ _ h ι w a _ hr ht hf λa₁ w₁ ha=>?_);have:=hQ a₁ w₁ ha;cases e with
   |normal=>exact absurd h (hne _ _)
   |exit id=>exact this
   |ret=>exact this
 |cond c x y ihx ihy=>
  intro t m e t' m' h;simp only[AH]at h;intro ι w a Q hr ht hf hQ;split at h<;>try (simp at h;done)
  ·rename_i hc;exact wp_cond_true (BR hr ht hc).inv_bool (ihx _ _ _ _ _ h ι w a Q hr ht hf hQ)
  ·rename_i hc;exact wp_cond_false (BR hr ht hc).inv_bool (ihy _ _ _ _ _ h ι w a Q hr ht hf hQ)
 |block id c ih=>
  intro t m e t' m' h;simp only[AH]at h;intro ι w a Q hr ht hf hQ;split at h
  ·rename_i id' t₁ m₁ h1;split at h<;>simp at h
   ·rename_i he;obtain⟨rfl,rfl,rfl⟩:=h;refine wp_block (ih _ _ _ _ _ h1 ι w a _ hr ht hf λa₁ w₁ ha=>?_);simp only[Ex.to,Exit.inBlock,he,if_true];exact hQ a₁ w₁ ha
   ·rename_i he;obtain⟨rfl,rfl,rfl⟩:=h;refine wp_block (ih _ _ _ _ _ h1 ι w a _ hr ht hf λa₁ w₁ ha=>?_);simp only[Ex.to,Exit.inBlock,he,if_false];exact hQ a₁ w₁ ha
  ·rename_i hne;refine wp_block (ih _ _ _ _ _ h ι w a _ hr ht hf λa₁ w₁ ha=>?_);have:=hQ a₁ w₁ ha;cases e with
   |normal=>exact this
   |exit id=>exact absurd h (hne _ _ _)
   |ret=>exact this
 |loop c ih=>
  intro t m e t' m' h;simp only[AH]at h;intro ι w a Q hr ht hf hQ;refine wp_loop_rounds k ?_
  have key:∀(k':Nat) (t:AE) (m:Mem) (ι:Ren) (w:World) (a:Act) (Q:Exit->Act->World->Prop),B2 (AH P K G cf dr n k c) k' t m=some (e,t',m')->Rel B0 G ι m w->BV ι n t a->Dy ι m.size m'.size->
    (∀a' w',DZ B0 G n ι m w a t' m' a' w'->Q e.to a' w')->e.to≠ .normal->Code.rounds P c Q k' a w:=by
   intro k';induction k' with
   |zero=>intro t m ι w a Q h;simp[B2]at h
   |succ k' ih2=>
    intro t m ι w a Q h hr ht hf hQ hne';simp only[B2]at h;rw[rounds_succ];split at h
    ·rename_i t₁ m₁ h1;have s1:=hsz c _ _ _ _ _ h1;have s2:=Ih (λt m e t' m' h=>hsz c t m e t' m' h) _ _ _ _ _ _ h;refine ih _ _ _ _ _ h1 ι w a _ hr ht (hf.sub (Nat.le_refl _) s2) λa₁ w₁ ha=>?_;obtain⟨ι₁,g1,g2,g3,g4⟩:=ha;simp only[Ex.to,Exit.then];exact ih2 t₁ m₁ ι₁ w₁ a₁ Q h g2 g1 ((hf.sub s1 (Nat.le_refl _)).stp g3 (Nat.le_refl _)) (λa₂ w₂ ha₂=>hQ a₂ w₂ (DZ.trans g3 g4 ha₂)) hne'
    ·rename_i hne;refine ih _ _ _ _ _ h ι w a _ hr ht hf λa₁ w₁ ha=>?_;have:=hQ a₁ w₁ ha;cases e with
     |normal=>exact absurd h (hne _ _)
     |exit id=>exact this
     |ret=>exact this
  have hne':e.to≠ .normal:=by
   have:∀(k':Nat) (t:AE) (m:Mem),B2 (AH P K G cf dr n k c) k' t m=some (e,t',m')->e.to≠ .normal:=by
    intro k';induction k' with
    |zero=>intro t m h;simp[B2]at h
    |succ k' ih2=>
     intro t m h;simp only[B2]at h;split at h
     ·exact ih2 _ _ h
     ·rename_i hne;cases e with
      |normal=>exact absurd h (hne _ _)
      |exit id=>simp[Ex.to]
      |ret=>simp[Ex.to]
   exact this k t m h
  exact key k t m ι w a Q h hr ht hf hQ hne'
 |exit id=>intro t m e t' m' h;simp[AH]at h;obtain⟨rfl,rfl,rfl⟩:=h;intro ι w a Q hr ht hf hQ;exact wp_exit (hQ a w ⟨ι,ht,hr,Dd.refl _ _ _,rfl⟩)
 |ret=>intro t m e t' m' h;simp[AH]at h;obtain⟨rfl,rfl,rfl⟩:=h;intro ι w a Q hr ht hf hQ;exact wp_ret (hQ a w ⟨ι,ht,hr,Dd.refl _ _ _,rfl⟩)
 |rangeFunc=>intro t m e t' m' h;simp[AH]at h
 |scope c ih=>
  intro t m e t' m' h;simp only[AH]at h;intro ι w a Q hr ht hf hQ;refine wp_scope_straight (ih _ _ _ _ _ h ι w a _ hr ht hf λa₁ w₁ ha=>?_);have:=hQ a₁ w₁ ha;cases e<;>exact this
 |goto=>intro t m e t' m' h;simp[AH]at h
 |refuse=>intro t m e t' m' h;simp[AH]at h
end
end Go.DI
namespace Go.DI
section
variable{P:Program}{K:TypeId->Bool}{G B0 n:Nat}{ι:Ren}{m:Mem}{w:World}{t:AE}{a:Act}
def Mem.top(m:Mem):Prop:=∀b,m.size<=b->m.get b= .none
structure Dx(m m':Mem):Prop where
 size:m.size<=m'.size
 top:m.top->m'.top
 live:∀b,b<m.size->(m'.get b).live->(m.get b).live
 own:∀b,b<m.size->(m'.get b).own=true->(m.get b).own=true
theorem Dx.refl(m:Mem):Dx m m:=⟨Nat.le_refl _,id,λ_ _=>id,λ_ _=>id⟩
theorem Dx.trans{m m₁ m₂:Mem}(h:Dx m m₁)(k:Dx m₁ m₂):Dx m m₂:=
 ⟨Nat.le_trans h.size k.size,λq=>k.top (h.top q),λb hb q=>h.live b hb (k.live b (Nat.lt_of_lt_of_le hb h.size) q),λb hb q=>h.own b hb (k.own b (Nat.lt_of_lt_of_le hb h.size) q)⟩
theorem Dx.set{b:Nat}{x:BI}(hl:(m.get b).live)(h1:x.own=true->(m.get b).own=true):Dx m (m.set b x):=by
 refine⟨Nat.le_refl _,λq c hc=>?_,λc hc q=>?_,λc hc q=>?_⟩
 ·rw[Mem.get_set];split
  ·rename_i e;subst e;rw[q c hc]at hl;exact hl.elim
  ·exact q c hc
 ·rw[Mem.get_set]at q;split at q
  ·rename_i e;subst e;exact hl
  ·exact q
 ·rw[Mem.get_set]at q;split at q
  ·rename_i e;subst e;exact h1 q
  ·exact q
theorem Dx.push(m:Mem)(x:BI):Dx m (m.push x):=by
 refine⟨by simp,λq c hc=>?_,λc hc q=>?_,λc hc q=>?_⟩
 ·simp at hc;rw[Mem.get_push_ne _ (by omega)];exact q c (by omega)
 ·rw[Mem.get_push_ne _ (by omega)]at q;exact q
 ·rw[Mem.get_push_ne _ (by omega)]at q;exact q
theorem Io{b off:Nat}{vs:List Value}{m':Mem}(h:Df m b off vs=some m'):Dx m m':=by
 unfold Df at h
 split at h<;>try (simp at h;done)
 rename_i hg
 split at h<;>try (simp at h;done)
 split at h<;>simp at h
 subst h
 exact Dx.set (by rw[hg];trivial) (by rw[hg];simp[BI.own])
theorem S9{s:TypeId}{x v:Value}{m':Mem}(h:Bx P m s v x=some m'):Dx m m':=by
 unfold Bx at h
 split at h<;>try (simp at h;done)
 split at h<;>try (simp at h;done)
 split at h<;>try (simp at h;done)
 exact Io h
theorem Hc{s:TypeId}{x k v:Value}{m':Mem}(h:C2 P K m s x k v=some m'):Dx m m':=by
 unfold C2 at h
 split at h<;>try (simp at h;done)
 split at h<;>try (simp at h;done)
 split at h<;>try (simp at h;done)
 rename_i hg
 split at h<;>try (simp at h;done)
 split at h<;>try (simp at h;done)
 ·split at h<;>try (simp at h;done)
  split at h<;>simp at h;subst h;exact Dx.set (by rw[hg];trivial) (by rw[hg];simp[BI.own])
 ·simp at h;subst h;exact Dx.set (by rw[hg];trivial) (by rw[hg];simp[BI.own])
theorem Qa{tS tX:TypeId}{s x v:Value}{m':Mem}(h:Bp P m tS tX s x=some (v,m')):Dx m m':=by
 unfold Bp at h
 split at h<;>try (simp at h;done)
 split at h<;>try (simp at h;done)
 split at h<;>try (simp at h;done)
 split at h<;>try (simp at h;done)
 split at h
 ·split at h
  ·split at h<;>simp at h;rw[h.2];exact Dx.refl _
  ·split at h
   ·simp at h;rw[h.2];exact Dx.refl _
   ·split at h<;>simp at h;rename_i hst;rw[←h.2];exact Io (H0 hst)
 ·split at h<;>try (simp at h;done)
  split at h<;>try (simp at h;done)
  split at h<;>try (simp at h;done)
  split at h
  ·rename_i b off e';split at h<;>try (simp at h;done)
   split at h<;>simp at h;rename_i cb hg;rw[←h.2];refine⟨by simp,λq c hc=>?_,λc hc q=>?_,λc hc q=>?_⟩
   ·simp at hc;rw[Mem.get_set];split
    ·rfl
    ·rw[Mem.get_push_ne _ (by omega)];exact q c (by omega)
   ·rw[Mem.get_set]at q;split at q
    ·exact q.elim
    ·rw[Mem.get_push_ne _ (by omega)]at q;exact q
   ·rw[Mem.get_set]at q;split at q
    ·simp[BI.own]at q
    ·rw[Mem.get_push_ne _ (by omega)]at q;exact q
  ·simp at h;rw[←h.2];exact Dx.push _ _
theorem WY{tD:TypeId}{s x v:Value}{m':Mem}(h:Lr P m tD s x=some (v,m')):Dx m m':=by
 unfold Lr at h
 split at h<;>try (simp at h;done)
 split at h<;>try (simp at h;done)
 split at h<;>try (simp at h;done)
 split at h<;>try (simp at h;done)
 split at h
 ·simp at h;rw[h.2];exact Dx.refl _
 ·split at h
  ·simp at h;rw[h.2];exact Dx.refl _
  ·split at h<;>simp at h;rename_i hst;rw[←h.2];exact Io hst
theorem WZ{s d:TypeId}{x v:Value}{m':Mem}(h:Lt P m s d x=some (v,m')):Dx m m':=by
 unfold Lt at h
 split at h<;>try (simp at h;done)
 ·split at h<;>simp at h;rw[h.2];exact Dx.refl _
 ·split at h<;>simp at h;rw[h.2];exact Dx.refl _
 ·split at h<;>simp at h;rw[←h.2];exact Dx.push _ _
 ·split at h<;>try (simp at h;done)
  split at h<;>try (simp at h;done)
  ·simp at h;rw[h.2];exact Dx.refl _
  ·split at h<;>try (simp at h;done)
   split at h<;>simp at h;rw[h.2];exact Dx.refl _
def Bc(cf:CD):Prop:=∀f args m v m',cf f args m=some (v,m')->Dx m m'
theorem Sa{cf:CD}(hcf:Bc cf){o:Op}{v:Value}{m':Mem}(h:Ce P K G cf t m o=some (v,m')):Dx m m':=by
 unfold Ce at h
 split at h<;>try (simp at h;done)
 ·split at h<;>try (simp at h;done)
  split at h<;>simp at h;rename_i hs;rw[←h.2];exact S9 hs
 ·split at h<;>try (simp at h;done)
  split at h<;>simp at h;rename_i hs;rw[←h.2];exact Hc hs
 ·split at h<;>try (simp at h;done)
  split at h<;>simp at h;rename_i hs;rw[←h.2];exact Hc hs
 ·split at h<;>try (simp at h;done)
  exact WZ h
 ·split at h<;>try (simp at h;done)
  split at h<;>try (simp at h;done)
  exact Qa h
 ·split at h<;>try (simp at h;done)
  split at h<;>try (simp at h;done)
  exact WY h
 ·split at h<;>try (simp at h;done)
  exact hcf _ _ _ _ _ h
theorem PH{cf:CD}(hcf:Bc cf){o:Op}{v:Value}{m':Mem}(h:Dj P K G cf t m o=some (v,m')):Dx m m':=by
 unfold Dj at h
 split at h
 ·split at h<;>simp at h;rw[h.2];exact Dx.refl _
 ·split at h<;>simp at h;rw[←h.2];exact Dx.push _ _
 ·exact Sa hcf h
theorem MM{cf:CD}(hcf:Bc cf){ops:List Oper}:∀(l:List Oper) (t:AE) (m:Mem) (t':AE) (m':Mem),FF P K G cf n ops l t m=some (t',m')->Dx m m'
 | [],t,m,t',m',h=>by simp[FF]at h;rw[h.2];exact Dx.refl _
 |o::l,t,m,t',m',h=>by
  simp only[FF]at h;split at h<;>try (simp at h;done)
  split at h
  ·split at h<;>try (simp at h;done)
   rename_i v m₁ hv;exact(PH hcf hv).trans (MM hcf l _ _ _ _ h)
  ·exact MM hcf l _ _ _ _ h
theorem OA{body:AE->Mem->Option (Ex×AE×Mem)}(hb:∀t m e t' m',body t m=some (e,t',m')->Dx m m'):∀(k:Nat) (t:AE) (m:Mem) (e:Ex) (t':AE) (m':Mem),B2 body k t m=some (e,t',m')->Dx m m'
 |0,t,m,e,t',m',h=>by simp[B2]at h
 |k+1,t,m,e,t',m',h=>by
  simp only[B2]at h;split at h
  ·rename_i t₁ m₁ h1;exact(hb _ _ _ _ _ h1).trans (OA hb k _ _ _ _ _ h)
  ·exact hb _ _ _ _ _ h
theorem KN{cf:CD}(hcf:Bc cf){dr:List Oper->AE->Mem->Option (AE×Mem)}(hdr:∀ops t m t' m',dr ops t m=some (t',m')->Dx m m'){k:Nat}:
  ∀(c:Code) (t:AE) (m:Mem) (e:Ex) (t':AE) (m':Mem),AH P K G cf dr n k c t m=some (e,t',m')->Dx m m':=by
 intro c
 induction c with
 |skip=>intro t m e t' m' h;simp[AH]at h;rw[h.2.2];exact Dx.refl _
 |label l=>intro t m e t' m' h;simp[AH]at h;rw[h.2.2];exact Dx.refl _
 |region id ops draw=>
  intro t m e t' m' h;simp only[AH]at h;split at h<;>simp at h;rename_i t₁ m₁ h1;rw[←h.2.2];cases draw
  ·exact MM hcf _ _ _ _ _ h1
  ·exact hdr _ _ _ _ _ h1
 |seq x y ihx ihy=>
  intro t m e t' m' h;simp only[AH]at h;split at h
  ·rename_i t₁ m₁ h1;exact(ihx _ _ _ _ _ h1).trans (ihy _ _ _ _ _ h)
  ·exact ihx _ _ _ _ _ h
 |cond c x y ihx ihy=>
  intro t m e t' m' h;simp only[AH]at h;split at h<;>try (simp at h;done)
  ·exact ihx _ _ _ _ _ h
  ·exact ihy _ _ _ _ _ h
 |block id c ih=>
  intro t m e t' m' h;simp only[AH]at h;split at h
  ·rename_i id' t₁ m₁ h1;split at h<;>simp at h<;>rw[←h.2.2] <;>exact ih _ _ _ _ _ h1
  ·exact ih _ _ _ _ _ h
 |loop c ih=>intro t m e t' m' h;simp only[AH]at h;exact OA (λt m e t' m' h=>ih t m e t' m' h) _ _ _ _ _ _ h
 |exit id=>intro t m e t' m' h;simp[AH]at h;rw[h.2.2];exact Dx.refl _
 |ret=>intro t m e t' m' h;simp[AH]at h;rw[h.2.2];exact Dx.refl _
 |rangeFunc=>intro t m e t' m' h;simp[AH]at h
 |scope c ih=>intro t m e t' m' h;simp only[AH]at h;exact ih _ _ _ _ _ h
 |goto=>intro t m e t' m' h;simp[AH]at h
 |refuse=>intro t m e t' m' h;simp[AH]at h
end
end Go.DI
namespace Go.DI
section
variable(P:Program)(K:TypeId->Bool)(G:Nat)
def H7:Op->List Operand
 | .move x| .assign x=> [x]
 | .pick c a b=> [c,a,b]
 | .alloc _=> []
 | .box _ x=> [x]
 | .build _ ps=>ps.toList.map (·.2)
 | .buildSlice _ _ ps=>ps.toList.map (·.2)
 | .insert _ m k v=> [m,k,v]
 | .load _ a=> [a]
 | .store _ a v=> [a,v]
 | .nilCheck x=> [x]
 | .binOp _ _ x y _=> [x,y]
 | .unOp _ _ x=> [x]
 | .convert _ _ x=> [x]
 | .makeFunc _ f c=>f.toList++c.toList
 | .makeMap _ r=>r.toList
 | .makeSlice _ l c=> [l,c]
 | .slice _ x l h m=>x::(l.toList++(h.toList++m.toList))
 | .fieldAddr _ x _=> [x]
 | .field _ x _=> [x]
 | .indexAddr _ x i=> [x,i]
 | .index _ x i=> [x,i]
 | .lookup _ x k _=> [x,k]
 | .mapUpdate _ m k v=> [m,k,v]
 | .extract x _=> [x]
 | .call {callee:= .value f,args,argTypes:=_}=>f::args.toList
 | .call {callee:=_,args,argTypes:=_}=>args.toList
 |_=> []
def Gw(ops:List Oper)(o:Oper):List Tmp:=
 ((H7 o.op).filterMap fun| .tmp t=>some t|_=>none)++
 (match o.guard with
  |some (g,_)=>match ops[g]? with
   |some u=>u.dst.toList
   |none=> []
  |none=> [])
def HL(acc:List Nat):List Edge->Nat
 | []=>0
 |e::l=>cond (Region.binds .any e) (2 ^ e.on|||(acc.getD e.on 0|||HL acc l)) (HL acc l)
def Ci:List Oper->List Nat->List Nat
 | [],acc=>acc
 |o::l,acc=>Ci l (acc++ [HL acc o.after.toList])
def FU(T:List Nat)(i j:Nat):Bool:=(T.getD j 0).testBit i
def BK(ops:List Oper)(i:Nat):Nat:=match ops[i]? with|some o=>B3 o.op|none=>0
def MB(ops:List Oper)(T:List Nat)(i j:Nat):Bool:=
 match ops[i]?,ops[j]? with
 |some x,some y=>
  (match x.dst with
   |some d=>Nat.beq i j|| !((Gw ops y).contains d||y.dst==some d)||cond (Nat.blt i j) (FU T i j) (FU T j i)
   |none=>true) &&
  (!(Nat.beq (B3 x.op) 2 && Nat.beq (B3 y.op) 2 && Nat.blt i j)||FU T i j)
 |_,_=>false
def Il:List Oper->Nat->Bool
 | [],_=>true
 |o::l,j=>o.after.toList.all (λe=> !(Region.binds .any e)||Nat.blt e.on j) && Il l (j+1)
def Kj(ops:List Oper)(T:List Nat):Bool:=
 Il ops 0 && (List.range ops.length).all λi=>(List.range ops.length).all λj=>MB ops T i j
def EJ:Op->Bool
 | .load .. | .lookup .. | .convert .. =>true
 | .call {callee:= .builtin .len, ..}=>true
 |_=>false
def Nt(ops:List Oper)(T:List Nat)(i s:Nat):Bool:=
 (Nat.beq s ops.length||(Nat.beq (BK ops s) 2 && !(FU T s i))) && (List.range s).all λh=> !(Nat.beq (BK ops h) 2)|| !(FU T i h)
def Nu(ops:List Oper)(i s:Nat):Bool:=Nat.ble i s && (List.range s).all λh=> !(Nat.beq (BK ops h) 2)||Nat.blt h i
def MC(ops:List Oper)(T:List Nat):List (Nat×Nat):=
 (List.range ops.length).flatMap λi=>match ops[i]? with
  |some o=>cond (Nat.beq (B3 o.op) 0 && EJ o.op) ((List.range (ops.length+1)).filterMap λs=>cond (Nt ops T i s && !(Nu ops i s)) (some (i,s)) none) []
  |none=> []
def MD(ops:List Oper)(T:List Nat):List (Nat×Nat):=
 (List.range ops.length).flatMap λi=>cond (Nat.beq (BK ops i) 1) ((List.range ops.length).filterMap λh=>cond (Nat.blt i h && Nat.beq (BK ops h) 2 && !(FU T i h)) (some (i,h)) none) []
structure Rec where
 want:Bool
 v:Value
 t:AE
 m:Mem
def Gd(cf:FuncId->List Value->Mem->Option (Value×Mem))(n:Nat)(ops:List Oper):List Oper->AE->Mem->Option (List Rec×AE×Mem)
 | [],t,m=>some ([],t,m)
 |o::l,t,m=>if Gb n o.dst=true then
   (if Region.wanted o (EG ops t)=true then
    (match Dj P K G cf t m o.op with
    |some (v,m')=>match Gd cf n ops l (putD t o.dst v) m' with
     |some (rs,t',m'')=>some (⟨true,v,t,m⟩::rs,t',m'')
     |none=>none
    |none=>none)
   else match Gd cf n ops l (putD t o.dst undef) m with
    |some (rs,t',m'')=>some (⟨false,undef,t,m⟩::rs,t',m'')
    |none=>none)else none
def Y0(rs:List Rec)(t':AE)(i:Nat):AE:=match rs[i]? with|some r=>r.t|none=>t'
def CI(rs:List Rec)(m':Mem)(i:Nat):Mem:=match rs[i]? with|some r=>r.m|none=>m'
def Kz(f:Value->Value->Bool):List Value->List Value->Bool
 | [],[]=>true
 |x::l,y::l'=>f x y && Kz f l l'
 |_,_=>false
def Nv:Nat->Value->Value->Bool
 |0,_,_=>false
 |d+1,x,y=>
  match x,y with
  | .bool a, .bool b=>a==b
  | .int k a, .int k' b=>decide (k=k') && decide (a=b)
  | .string a, .string b=>a.data.toList==b.data.toList
  | .pointer a, .pointer b=>decide (a=b)
  | .slice a n c, .slice a' n' c'=>decide (a=a') && Nat.beq n n' && Nat.beq c c'
  | .map a, .map b=>decide (a=b)
  | .func f a b, .func f' a' b'=>decide (f=f') && Kz (Nv d) a.toList a'.toList && Kz (Nv d) b.toList b'.toList
  | .nilFunc, .nilFunc=>true
  | .nilIface, .nilIface=>true
  | .agg a, .agg b=>Kz (Nv d) a.toList b.toList
  | .tuple a, .tuple b=>Kz (Nv d) a.toList b.toList
  |_,_=>false
def Y1:BI->BI->Bool
 | .cells o c, .cells o' c'=>(o==o') && Kz (Nv 8) c c'
 | .map o [] k, .map o' [] k'=>(o==o') && Nat.beq k k'
 |_,_=>false
def HP(ops:List Oper)(rs:List Rec)(m':Mem)(x:Nat×Nat):Bool:=
 match rs[x.1]?,ops[x.1]? with
 |some r,some o=> !r.want||(match BN P K G r.t (CI rs m' x.2) o.op with
  |some v=>Nv 8 v r.v
  |none=>false)
 |_,_=>false
def Q5(rs:List Rec)(m':Mem)(x:Nat×Nat):Bool:=
 match rs[x.1]? with
 |some r=> !r.want||Y1 ((CI rs m' (x.2+1)).get r.m.size) ((CI rs m' (x.1+1)).get r.m.size)
 |none=>false
def A6(cf:FuncId->List Value->Mem->Option (Value×Mem))(n:Nat)(ops:List Oper)(t:AE)(m:Mem):Option (AE×Mem):=
 if Kj ops (Ci ops [])=true then
  match Gd P K G cf n ops ops t m with
  |some (rs,t',m')=>if(MC ops (Ci ops [])).all (HP P K G ops rs m')=true then(if(MD ops (Ci ops [])).all (Q5 rs m')=true then some (t',m')else none)else none
  |none=>none
 else none
def Cr:Nat->FuncId->List Value->Mem->Option (Value×Mem)
 |0,_,_,_=>none
 |k+1,f,args,m=>match P.funcs[f]? with
  |some fn=>match fn.body with
   |some c=>match AH P K G (Cr k) (A6 P K G (Cr k) (max args.length fn.ntmps)) (max args.length fn.ntmps) k c (GF 0 args) m with
    |some (.normal,t,m')=>match DM P t m' fn.results.toList with
     |some vs=>some (FT vs,m')
     |none=>none
    |some (.ret,t,m')=>match DM P t m' fn.results.toList with
     |some vs=>some (FT vs,m')
     |none=>none
    |_=>none
   |none=>none
  |none=>none
end
end Go.DI
namespace Go.DI
section
variable{P:Program}{K:TypeId->Bool}{G B0 n:Nat}{ι:Ren}{m:Mem}{w:World}{t u:AE}{a:Act}
theorem Y2{x:Operand}(h:∀d,x= .tmp d->t.at d=u.at d):ev G t x=ev G u x:=by
 cases x with
 |tmp d=>simp only[ev];rw[h d rfl]
 |const c=>rfl
 |global g=>rfl
 |func f=>rfl
theorem Ff:∀{l:List Operand},(∀x∈l,ev G t x=ev G u x)->evs G t l=evs G u l
 | [],_=>rfl
 |x::l,h=>by
  simp only[evs];rw[h x (by simp),Ff (l:=l) λy hy=>h y (by simp[hy])]
theorem GS:∀{l:List (Nat×Operand)},(∀x∈l.map (·.2),ev G t x=ev G u x)->F6 G t l=F6 G u l
 | [],_=>rfl
 |(i,x)::l,h=>by
  simp only[F6];rw[h x (by simp),GS (l:=l) λy hy=>h y (by simp at hy ⊢;exact .inr hy)]
theorem H8{x:Option Operand}(h:∀y∈x.toList,ev G t y=ev G u y):IW G t x=IW G u x:=by
 cases x with
 |none=>rfl
 |some x=>simp only[IW];rw[h x (by simp)]
theorem PE{o:Op}(h:∀x∈H7 o,ev G t x=ev G u x):BN P K G t m o=BN P K G u m o:=by
 cases o<;>simp only[H7]at h<;>simp only[BN]
 case move x=>exact h x (by simp)
 case assign x=>exact h x (by simp)
 case pick c x y=>rw[h c (by simp),h x (by simp),h y (by simp)]
 case load ty x=>rw[h x (by simp)]
 case nilCheck x=>rw[h x (by simp)]
 case binOp op ty x y yt=>rw[h x (by simp),h y (by simp)]
 case unOp op ty x=>rw[h x (by simp)]
 case makeFunc fn f c=>
  cases fn<;>simp only[BN];rw[Ff λx hx=>h x (by simp[Array.mem_toList_iff.1 hx]),Ff (l:=c.toList) λx hx=>h x (by simp[Array.mem_toList_iff.1 hx])]
 case fieldAddr s x f=>rw[h x (by simp)]
 case field s x f=>rw[h x (by simp)]
 case indexAddr s x i=>rw[h x (by simp),h i (by simp)]
 case index s x i=>rw[h x (by simp),h i (by simp)]
 case lookup s x k ok=>rw[h x (by simp),h k (by simp)]
 case extract x i=>rw[h x (by simp)]
 case convert s d x=>rw[h x (by simp)]
 case build ty ps=>rw[GS h]
 case slice ty x lo hi mx=>
  rw[h x (by simp),H8 (x:=lo) λy hy=>h y (by simp[hy]),H8 (x:=hi) λy hy=>h y (by simp[hy]),H8 (x:=mx) λy hy=>h y (by simp[hy])]
 case call c=>
  obtain⟨callee,args,tys⟩:=c;cases callee with
  |value f=>simp only[BN]
  |invoke r s=>simp only[BN]
  |builtin b=>
   cases b<;>simp only[BN]
   case len=>
    cases hl:args.toList with
    |nil=>rfl
    |cons x l=>
     have:=h x (by simp[hl]);cases l with
     |nil=>cases tys.toList with
      |nil=>rfl
      |cons y l'=>cases l' with
       |nil=>simp only[this]
       |cons z l''=>rfl
     |cons y l'=>rfl
   case min=>rw[Ff h]
   case max=>rw[Ff h]
theorem Kk{o:Op}(h:EJ o=false)(m₂:Mem):BN P K G t m o=BN P K G t m₂ o:=by
 cases o<;>simp only[EJ]at h<;>simp only[BN] <;>try (simp at h;done)
 case makeFunc fn f c=>cases fn<;>simp only[BN]
 case call c=>
  obtain⟨callee,args,tys⟩:=c;cases callee with
  |value f=>simp only[BN]
  |invoke r s=>simp only[BN]
  |builtin b=>cases b<;>simp only[EJ]at h<;>simp only[BN] <;>simp at h
theorem SZ{m₂:Mem}(ht:m.top)(hg:∀b,b<m.size->m₂.get b=m.get b){o:Op}{v:Value}(h:BN P K G t m o=some v):BN P K G t m₂ o=some v:=by
 have hne:∀b,m.get b≠ .none->m₂.get b=m.get b:=λb hb=>by
  rcases Nat.lt_or_ge b m.size with h1|h1
  ·exact hg b h1
  ·exact absurd (ht b h1) hb
 have hload:∀(ty:TypeId) (x v:Value),Dq P m ty x=some v->Dq P m₂ ty x=some v:=by
  intro ty x v h;unfold Dq at h ⊢;split at h<;>try (simp at h;done)
  rename_i b off;split at h<;>try (simp at h;done)
  ·split at h<;>try (simp at h;done)
   rename_i k _
   have:∀c,Ck m b off k=some c->Ck m₂ b off k=some c:=by
    intro c hc;unfold Ck at hc ⊢;rw[hne b (by intro e;rw[e]at hc;simp at hc)];exact hc
   split at h<;>try (simp at h;done)
   rename_i c hc;simp only[this c hc];exact h
  ·rename_i hb;rw[hne b (by intro e;rw[e]at h;simp at h)];exact h
 have hent:∀(x:Value) (es:List MapEntry),FG m x=some es->FG m₂ x=some es:=by
  intro x es h;unfold FG at h ⊢;split at h<;>try (simp at h;done)
  ·exact h
  ·rename_i r;rw[hne r (by intro e;rw[e]at h;simp at h)];exact h
 cases o
 case load ty x=>
  simp only[BN]at h ⊢;split at h<;>try (simp at h;done)
  rename_i u _;cases hl:Dq P m ty u with
  |none=>rw[hl]at h;simp[SX]at h
  |some z=>rw[hload _ _ _ hl];rw[hl]at h;exact h
 case lookup s x k ok=>
  simp only[BN]at h ⊢;split at h<;>try (simp at h;done)
  unfold Hw at h ⊢;split at h<;>try (simp at h;done)
  split at h<;>try (simp at h;done)
  rename_i es hes;simp only[hent _ _ hes];exact h
 case convert s d x=>
  simp only[BN]at h ⊢;split at h<;>try (simp at h;done)
  have hlc:∀b off k c,Ck m b off k=some c->Ck m₂ b off k=some c:=by
   intro b off k c hc;unfold Ck at hc ⊢;rw[hne b (by intro e;rw[e]at hc;simp at hc)];exact hc
  unfold H3 at h ⊢;split at h<;>try (simp at h;done)
  ·exact h
  ·exact h
  ·split at h<;>try (simp at h;done)
   split at h<;>try (simp at h;done)
   ·exact h
   ·split at h<;>try (simp at h;done)
    rename_i c hc;simp only[hlc _ _ _ _ hc];exact h
 case call c=>
  obtain⟨callee,args,tys⟩:=c;cases callee with
  |value f=>simp only[BN]at h;simp at h
  |invoke r s=>simp only[BN]at h;simp at h
  |builtin b=>
   cases b<;>simp only[BN]at h ⊢ <;>try exact h
   case len=>
    split at h<;>try (simp at h;done)
    split at h<;>try (simp at h;done)
    unfold Q4 at h ⊢;split at h<;>try (simp at h;done)
    ·exact h
    ·exact h
    ·exact h
    ·split at h<;>try (simp at h;done)
     ·exact h
     ·rename_i r _;rw[hne r (by intro e;rw[e]at h;simp at h)];exact h
 all_goals (rw[Kk (m₂:=m) rfl];exact h)
theorem PF{o:Op}(h:∀x∈H7 o,ev G t x=ev G u x):E4 P G t o=E4 P G u o:=by
 cases o<;>simp only[H7]at h<;>simp only[E4]
 case box e x=>rw[h x (by simp)]
 case buildSlice ty k ps=>rw[GS h]
 case makeSlice ty l c=>rw[h l (by simp),h c (by simp)]
 case makeMap ty r=>
  cases r with
  |none=>rfl
  |some x=>simp only;rw[h x (by simp)]
theorem PG{cf:CD}{o:Op}(h:∀x∈H7 o,ev G t x=ev G u x):Ce P K G cf t m o=Ce P K G cf u m o:=by
 cases o<;>simp only[H7]at h<;>simp only[Ce]
 case store ty x y=>rw[h x (by simp),h y (by simp)]
 case mapUpdate ty x k y=>rw[h x (by simp),h k (by simp),h y (by simp)]
 case insert ty x k y=>rw[h x (by simp),h k (by simp),h y (by simp)]
 case convert s d x=>rw[h x (by simp)]
 case call c=>
  obtain⟨callee,args,tys⟩:=c;cases callee with
  |value f=>
   simp only[H7]at h;simp only[Ce];rw[h f (by simp),Ff λx hx=>h x (by simp[Array.mem_toList_iff.1 hx])]
  |invoke r s=>simp only[Ce]
  |builtin b=>
   cases b<;>simp only[Ce]
   all_goals
    cases hl:args.toList with
    |nil=>rfl
    |cons x l=>
     have hx:=h x (by simp only[H7,hl];simp);cases l with
     |nil=>rfl
     |cons y l=>
      have hy:=h y (by simp only[H7,hl];simp);cases l<;>cases hT:tys.toList with
      |nil=>rfl
      |cons a b=>cases b with
       |nil=>rfl
       |cons c d=>cases d<;>simp only[hx,hy]
theorem Rel.restrict(hr:Rel B0 G ι m w){m₂:Mem}(ht:m₂.top)(hs:m₂.size<=m.size)(hg:∀b,b<m₂.size->m.get b=m₂.get b):Rel B0 G ι m₂ w:=by
 refine⟨λb L hb hL=>?_,λb₁ b₂ L₁ L₂ h1 h2 h3 h4 l1 l2 g0 e=>?_,hr.floor,hr.glob,ht⟩
 ·rw[←hg b hb];exact hr.blk b L (by omega) hL
 ·rw[←hg b₁ h1]at l1;rw[←hg b₂ h2]at l2;exact hr.inj b₁ b₂ L₁ L₂ (by omega) (by omega) h3 h4 l1 l2 g0 e
theorem KM{acc:List Nat}{i:Nat}:∀{l:List Edge},(HL acc l).testBit i=true->∃e∈l,Region.binds .any e=true/\(e.on=i\/(acc.getD e.on 0).testBit i=true)
 | [],h=>by simp[HL]at h
 |e::l,h=>by
  simp only[HL]at h;cases hb:Region.binds .any e with
  |false=>
   rw[hb,cond_false]at h;obtain⟨e',h1,h2⟩:=KM h;exact⟨e',by simp[h1],h2⟩
  |true=>
   rw[hb,cond_true,Nat.testBit_or,Nat.testBit_or,Bool.or_eq_true,Bool.or_eq_true]at h;rcases h with h|h|h
   ·rw[Nat.testBit_two_pow]at h;exact⟨e,by simp,hb, .inl (by simpa using h)⟩
   ·exact⟨e,by simp,hb, .inr h⟩
   ·obtain⟨e',h1,h2⟩:=KM h;exact⟨e',by simp[h1],h2⟩
theorem Nw:∀(l:List Oper) (acc:List Nat),∃rest,Ci l acc=acc++rest/\rest.length=l.length/\∀j o,l[j]?=some o->rest[j]?=some (HL (acc++rest.take j) o.after.toList)
 | [],acc=>⟨[],by simp[Ci],rfl,λj o h=>by simp at h⟩
 |o::l,acc=>by
  obtain⟨rest,h1,h2,h3⟩:=Nw l (acc++ [HL acc o.after.toList]);refine⟨HL acc o.after.toList::rest,by simp[Ci,h1],by simp[h2],λj o' hj=>?_⟩;cases j with
  |zero=>simp at hj;subst hj;simp
  |succ j=>
   have:=h3 j o' (by simpa using hj);simpa using this
theorem H9:∀(l:List Oper) (i:Nat),Il l i=true->∀j o,l[j]?=some o->∀e∈o.after.toList,Region.binds .any e=true->e.on<i+j
 | [],i,h,j,o,hj,_,_,_=>by simp at hj
 |x::l,i,h,j,o,hj,e,he,hb=>by
  simp only[Il,Bool.and_eq_true,List.all_eq_true]at h;cases j with
  |zero=>
   simp at hj;subst hj;have:=h.1 e he;rw[hb]at this;simp at this;have h2:e.on<i:=by simpa[Nat.blt]using this
   omega
  |succ j=>
   have:=H9 l (i+1) h.2 j o (by simpa using hj) e he hb;omega
theorem jk{ops:List Oper}(hE:Il ops 0=true){X:Nat->Prop}(D:∀j o,ops[j]?=some o->X j->∀e∈o.after.toList,Region.binds .any e=true->X e.on):
  ∀(j:Nat) (o:Oper),ops[j]?=some o->(∀e∈o.after.toList,Region.binds .any e=true->X e.on)->∀i,FU (Ci ops []) i j=true->X i:=by
 obtain⟨rest,h1,h2,h3⟩:=Nw ops []
 simp only[List.nil_append]at h1 h3
 intro j
 induction j using Nat.strongRecOn with
 |_ j ih=>
  intro o ho hx i hi;unfold FU at hi;rw[h1]at hi;have h4:=h3 j o ho;rw[List.getD_eq_getElem?_getD,h4,Option.getD_some]at hi;obtain⟨e,he,hb,hcase⟩:=KM hi;have hlt:=H9 ops 0 hE j o ho e he hb;have hxe:=hx e he hb;rcases hcase with h5|h5
  ·rw[←h5];exact hxe
  ·have hej:e.on<j:=by omega
   have e1:(rest.take j).getD e.on 0=rest.getD e.on 0:=by
    rw[List.getD_eq_getElem?_getD,List.getD_eq_getElem?_getD,List.getElem?_take];simp[hej]
   rw[e1]at h5
   have hlen:j<ops.length:=by
    rcases Nat.lt_or_ge j ops.length with h6|h6
    ·exact h6
    ·rw[List.getElem?_eq_none h6]at ho;cases ho
   obtain⟨oe,hoe⟩:∃oe,ops[e.on]?=some oe:=⟨ops[e.on],by simp⟩;exact ih e.on hej oe hoe (D _ _ hoe hxe) i (by unfold FU;rw[h1];exact h5)
theorem Ge{cf:CD}{ops:List Oper}:∀(l:List Oper) (t:AE) (m:Mem) (rs:List Rec) (t':AE) (m':Mem),Gd P K G cf n ops l t m=some (rs,t',m')->
  rs.length=l.length/\Y0 rs t' 0=t/\CI rs m' 0=m/\∀i o,l[i]?=some o->∃r,rs[i]?=some r/\Gb n o.dst=true/\r.want=Region.wanted o (EG ops r.t)/\
   Y0 rs t' (i+1)=putD r.t o.dst r.v/\(r.want=true->Dj P K G cf r.t r.m o.op=some (r.v,CI rs m' (i+1)))/\(r.want=false->r.v=undef/\CI rs m' (i+1)=r.m)
 | [],t,m,rs,t',m',h=>by
  simp[Gd]at h;obtain⟨rfl,rfl,rfl⟩:=h;exact⟨rfl,rfl,rfl,λi o hi=>by simp at hi⟩
 |o::l,t,m,rs,t',m',h=>by
  simp only[Gd]at h;split at h<;>try (simp at h;done)
  rename_i hd;split at h
  ·rename_i hw;split at h<;>try (simp at h;done)
   rename_i v m₁ hv;split at h<;>simp at h;rename_i rs₁ t₁ m₂ h1;obtain⟨rfl,rfl,rfl⟩:=h;obtain⟨g1,g2,g3,g4⟩:=Ge l _ _ _ _ _ h1;refine⟨by simp[g1],rfl,rfl,λi o' hi=>?_⟩;cases i with
   |zero=>
    simp at hi;subst hi;refine⟨_,rfl,hd,hw.symm,?_,λ_=>?_,λh=>by cases h⟩
    ·exact g2
    ·rw[hv];congr 2;exact g3.symm
   |succ i=>exact g4 i o' (by simpa using hi)
  ·rename_i hw;split at h<;>simp at h;rename_i rs₁ t₁ m₂ h1;obtain⟨rfl,rfl,rfl⟩:=h;obtain⟨g1,g2,g3,g4⟩:=Ge l _ _ _ _ _ h1;refine⟨by simp[g1],rfl,rfl,λi o' hi=>?_⟩;cases i with
   |zero=>
    simp at hi;subst hi;refine⟨_,rfl,hd,?_,g2,?_,?_⟩
    ·simpa using hw
    ·intro h;cases h
    ·intro _;exact⟨rfl,g3⟩
   |succ i=>exact g4 i o' (by simpa using hi)
theorem Hx{f:Value->Value->Bool}(hf:∀x y,f x y=true->x=y):∀{l l':List Value},Kz f l l'=true->l=l'
 | [],[],_=>rfl
 |x::l,y::l',h=>by
  simp only[Kz,Bool.and_eq_true]at h;rw[hf _ _ h.1,Hx hf h.2]
 | [],_::_,h=>by simp[Kz]at h
 |_::_,[],h=>by simp[Kz]at h
theorem S3:∀(d:Nat) (x y:Value),Nv d x y=true->x=y
 |0,x,y,h=>by simp[Nv]at h
 |d+1,x,y,h=>by
  have ih:=S3 d;cases x<;>cases y<;>simp only[Nv]at h<;>try (simp at h;done)
  case bool a b=>simp at h;rw[h]
  case int k a k' b=>simp at h;rw[h.1,h.2]
  case string a b=>
   obtain⟨⟨a⟩⟩:=a;obtain⟨⟨b⟩⟩:=b;simp at h;rw[h]
  case pointer a b=>simp at h;rw[h]
  case slice a k c a' k' c'=>
   simp only[Bool.and_eq_true,decide_eq_true_eq]at h;rw[h.1.1,Nat.eq_of_beq_eq_true h.1.2,Nat.eq_of_beq_eq_true h.2]
  case map a b=>simp at h;rw[h]
  case func f a b f' a' b'=>
   simp only[Bool.and_eq_true,decide_eq_true_eq]at h;rw[h.1.1,Array.ext' (Hx ih h.1.2),Array.ext' (Hx ih h.2)]
  case nilFunc=>rfl
  case nilIface=>rfl
  case agg a b=>rw[Array.ext' (Hx ih h)]
  case tuple a b=>rw[Array.ext' (Hx ih h)]
theorem Y3{x y:BI}(h:Y1 x y=true):x=y:=by
 unfold Y1 at h
 split at h
 ·simp only[Bool.and_eq_true,beq_iff_eq]at h;rw[h.1,Hx (S3 8) h.2]
 ·simp only[Bool.and_eq_true,beq_iff_eq]at h;rw[h.1,Nat.eq_of_beq_eq_true h.2]
 ·simp at h
end
end Go.DI
namespace Go.DI
section
variable{P:Program}{K:TypeId->Bool}{G B0 n:Nat}
def Ef(ops:List Oper)(k:Nat):Option Tmp:=match ops[k]? with|some o=>o.dst|none=>none
def FX(rs:List Rec)(k:Nat):Value:=match rs[k]? with|some r=>r.v|none=>undef
def FV(rs:List Rec)(k:Nat):Bool:=match rs[k]? with|some r=>r.want|none=>false
def Cz(ops:List Oper)(rs:List Rec)(t:AE)(X:Nat->Bool):Nat->AE
 |0=>t
 |k+1=>if X k=true then putD (Cz ops rs t X k) (Ef ops k) (FX rs k)else Cz ops rs t X k
theorem GG(t:AE)(dst:Option Tmp)(v:Value)(d:Tmp):(putD t dst v).at d=if dst=some d then v else t.at d:=by
 cases dst with
 |none=>simp[putD]
 |some e=>
  simp only[putD,AE.at_set,Option.some.injEq];by_cases h:d=e
  ·simp[h]
  ·have:¬e=d:=λh'=>h h'.symm;simp[h,this]
theorem BV.congr{ι:Ren}{t u:AE}{a:Act}(h:∀d,t.at d=u.at d)(ht:BV ι n t a):BV ι n u a:=⟨ht.1,λd=>by rw[←h d];exact ht.2 d⟩
theorem S4{ops:List Oper}{rs:List Rec}{t:AE}{X:Nat->Bool}{d:Tmp}{j N:Nat}(hj:j<=N)(h1:∀k,k<j->Ef ops k=some d->X k=true)(h2:∀k,j<=k->k<N->Ef ops k=some d->X k=false):
  (Cz ops rs t X N).at d=(Cz ops rs t (λ_=>true) j).at d:=by
 have A:∀k,k<=j->(Cz ops rs t X k).at d=(Cz ops rs t (λ_=>true) k).at d:=by
  intro k;induction k with
  |zero=>intro _;rfl
  |succ k ih=>
   intro hk;have ih:=ih (by omega);simp only[Cz,if_true];rw[GG];by_cases hd:Ef ops k=some d
   ·rw[if_pos (h1 k (by omega) hd),GG,if_pos hd,if_pos hd]
   ·rw[if_neg hd];split
    ·rw[GG,if_neg hd];exact ih
    ·exact ih
 have B:∀k,j+k<=N->(Cz ops rs t X (j+k)).at d=(Cz ops rs t X j).at d:=by
  intro k;induction k with
  |zero=>intro _;rfl
  |succ k ih=>
   intro hk;rw[←ih (by omega)];show(Cz ops rs t X ((j+k)+1)).at d=_;simp only[Cz];split
   ·rename_i hx;rw[GG];split
    ·rename_i hd;rw[h2 (j+k) (by omega) (by omega) hd]at hx;cases hx
    ·rfl
   ·rfl
 have:=B (N - j) (by omega)
 rw[show j+(N - j)=N by omega]at this
 rw[this,A j (Nat.le_refl _)]
theorem Y4{ops:List Oper}{rs:List Rec}{t:AE}{X X':Nat->Bool}{i N:Nat}(hi:i<N)(hx:X i=false)(hx':X' i=true)(hne:∀k,k≠i->X' k=X k)
  (h:∀k d,i<k->k<N->Ef ops k=some d->Ef ops i=some d->X k=false) (d:Tmp):(Cz ops rs t X' N).at d=(putD (Cz ops rs t X N) (Ef ops i) (FX rs i)).at d:=by
 have A:∀k,k<=i->Cz ops rs t X' k=Cz ops rs t X k:=by
  intro k;induction k with
  |zero=>intro _;rfl
  |succ k ih=>
   intro hk;simp only[Cz];rw[ih (by omega),hne k (by omega)]
 have B:∀k,i+1+k<=N->(Cz ops rs t X' (i+1+k)).at d=if Ef ops i=some d then FX rs i else(Cz ops rs t X (i+1+k)).at d:=by
  intro k;induction k with
  |zero=>
   intro _;simp only[Nat.add_zero,Cz,hx',hx,if_true,Bool.false_eq_true,if_false];rw[GG,A i (Nat.le_refl _)]
  |succ k ih=>
   intro hk;have ih:=ih (by omega);show(Cz ops rs t X' ((i+1+k)+1)).at d=if Ef ops i=some d then FX rs i else(Cz ops rs t X ((i+1+k)+1)).at d;simp only[Cz];rw[hne (i+1+k) (by omega)];split
   ·rename_i hxk;rw[GG,GG,ih];by_cases hd:Ef ops (i+1+k)=some d
    ·rw[if_pos hd,if_pos hd];split
     ·rename_i hdi;rw[h _ d (by omega) (by omega) hd hdi]at hxk;cases hxk
     ·rfl
    ·rw[if_neg hd,if_neg hd]
   ·exact ih
 have:=B (N - (i+1)) (by omega)
 rw[show i+1+(N - (i+1))=N by omega]at this
 rw[this,GG]
theorem Rel.lay{ι:Ren}{M M':Mem}{w:World}{b0 k:Nat}{x:BI}{ob:Obj}(hr:Rel B0 G ι M w)(hb0:b0<M.size)(hn:ι b0=none)(hsz:M'.size=M.size)(hg0:M'.get b0=x)(hg:∀b,b≠b0->M'.get b=M.get b)
  (hnew:Bd B0 (λb=>if b=b0 then some ⟨w.heap.size,0,k⟩else ι b) x ⟨w.heap.size,0,k⟩ (w.alloc ob)):
  Rel B0 G (λb=>if b=b0 then some ⟨w.heap.size,0,k⟩else ι b) M' (w.alloc ob):=by
 have hle:ι.le (λb=>if b=b0 then some ⟨w.heap.size,0,k⟩else ι b):=by
  intro b L hb;have:b≠b0:=by intro e;rw[e,hn]at hb;cases hb
  simp[this,hb]
 have hold:∀B,B<w.heap.size->(w.alloc ob).heap[B]?=w.heap[B]?:=λB hB=>by
  show(w.heap.push ob)[B]?=_;rw[Array.getElem?_push,if_neg (by omega)]
 refine⟨λb L hb hL=>?_,λb₁ b₂ L₁ L₂ h1 h2 h3 h4 l1 l2 g0 e=>?_,by simp;have:=hr.floor;omega,λg hg'=>?_,λb hb=>?_⟩
 ·by_cases e:b=b0
  ·subst e;simp at hL;subst hL;rw[hg0];exact hnew
  ·simp only[e,if_false]at hL;rw[hg b e];exact(hr.blk b L (by omega) hL).monoL hle (λhl=>hold _ (hr.old b L hL hl))
 ·by_cases e1:b₁=b0
  ·by_cases e2:b₂=b0
   ·omega
   ·simp[e1]at h3;simp[e2]at h4;subst h3;rw[hg _ e2]at l2;have:=hr.old _ _ h4 l2;simp at e;omega
  ·by_cases e2:b₂=b0
   ·simp[e1]at h3;simp[e2]at h4;subst h4;rw[hg _ e1]at l1;have:=hr.old _ _ h3 l1;simp at e;omega
   ·simp[e1]at h3;simp[e2]at h4;rw[hg _ e1]at l1;rw[hg _ e2]at l2;exact hr.inj b₁ b₂ L₁ L₂ (by omega) (by omega) h3 h4 l1 l2 g0 e
 ·obtain⟨L,h1,h2⟩:=hr.glob g hg';exact⟨L,hle _ _ h1,h2⟩
 ·rw[hg b (by omega)];exact hr.top b (by omega)
theorem Dd.inner{ι0 ι ι':Ren}{m M M' Ms Ms1:Mem}{w0 w w':World}(h:Dd ι0 ι m M w0 w)(k:Dd ι ι' Ms Ms1 w w')(h1:m.size<=Ms.size)(h2:Ms1.size<=M.size)(h3:∀b,b<Ms.size->M.get b=Ms.get b)(h4:M'.size=M.size)
  (h5:∀b,b<m.size->M'.get b=Ms1.get b):Dd ι0 ι' m M' w0 w':=by
 have kms:=k.msize
 refine⟨λb L hb=>k.ext _ _ (h.ext _ _ hb),λb hb=>?_,k.os.trans h.os,k.output.trans h.output,k.tape.trans h.tape,Nat.le_trans h.hsize k.hsize,λB hB hn=>?_,λb L g1 g2 hb=>?_,by rw[h4];exact h.msize,λb hb ho=>?_⟩
 ·rw[k.out b (by omega),h.out b (by omega)]
 ·rw[k.frame B (Nat.lt_of_lt_of_le hB h.hsize) ?_,h.frame B hB hn];intro b L hb hL ho;rw[←h3 b hb]at ho;rcases Nat.lt_or_ge b m.size with hlt|hge
  ·rw[h.out b (.inl hlt)]at hL;exact hn b L hlt hL (h.ownk b hlt ho)
  ·rcases h.new b L hge (by omega) hL with g|⟨b0,L0,g1,g2,g3,g4⟩
   ·omega
   ·rw[←g4];exact hn b0 L0 g1 g2 g3
 ·rw[h4]at g2;by_cases hc:Ms.size<=b/\b<Ms1.size
  ·rcases k.new b L hc.1 hc.2 hb with g|⟨b0,L0,q1,q2,q3,q4⟩
   ·exact .inl (Nat.le_trans h.hsize g)
   ·rw[←h3 b0 q1]at q3;rcases Nat.lt_or_ge b0 m.size with hlt|hge
    ·rw[h.out b0 (.inl hlt)]at q2;exact .inr ⟨b0,L0,hlt,q2,h.ownk b0 hlt q3,q4⟩
    ·rcases h.new b0 L0 hge (by omega) q2 with g|⟨b1,L1,k1,k2,k3,k4⟩
     ·exact .inl (q4▸g)
     ·exact .inr ⟨b1,L1,k1,k2,k3,k4.trans q4⟩
  ·rw[k.out b (by omega)]at hb;exact h.new b L g1 g2 hb
 ·rw[h5 b hb]at ho;have:=k.ownk b (by omega) ho;rw[←h3 b (by omega)]at this;exact h.ownk b hb this
structure LA(P:Program)(K:TypeId->Bool)(G n:Nat)(cf:CD)(ops:List Oper)(t:AE)(m:Mem)(rs:List Rec)(t':AE)(m':Mem):Prop where
 eq:Gd P K G cf n ops ops t m=some (rs,t',m')
 grw:Bc cf
 top:m.top
theorem LA.len{cf:CD}{ops:List Oper}{t t':AE}{m m':Mem}{rs:List Rec}(R:LA P K G n cf ops t m rs t' m'):rs.length=ops.length:=(Ge _ _ _ _ _ _ R.eq).1
theorem LA.zero{cf:CD}{ops:List Oper}{t t':AE}{m m':Mem}{rs:List Rec}(R:LA P K G n cf ops t m rs t' m'):CI rs m' 0=m:=(Ge _ _ _ _ _ _ R.eq).2.2.1
theorem LA.last{cf:CD}{ops:List Oper}{t t':AE}{m m':Mem}{rs:List Rec}(R:LA P K G n cf ops t m rs t' m'):CI rs m' ops.length=m':=by
 unfold CI;rw[List.getElem?_eq_none (by rw[R.len];exact Nat.le_refl _)]
theorem LA.step{cf:CD}{ops:List Oper}{t t':AE}{m m':Mem}{rs:List Rec}(R:LA P K G n cf ops t m rs t' m'){i:Nat}{o:Oper}(ho:ops[i]?=some o):
  ∃r,rs[i]?=some r/\r.t=Cz ops rs t (λ_=>true) i/\r.m=CI rs m' i/\Gb n o.dst=true/\r.want=Region.wanted o (EG ops r.t)/\
   (r.want=true->Dj P K G cf r.t r.m o.op=some (r.v,CI rs m' (i+1)))/\(r.want=false->r.v=undef/\CI rs m' (i+1)=r.m):=by
 obtain⟨g1,g2,g3,g4⟩:=Ge _ _ _ _ _ _ R.eq
 have ht:∀k,k<=ops.length->Y0 rs t' k=Cz ops rs t (λ_=>true) k:=by
  intro k;induction k with
  |zero=>intro _;exact g2
  |succ k ih=>
   intro hk;have ih:=ih (by omega);obtain⟨o',ho'⟩:∃o',ops[k]?=some o':=⟨ops[k],by simp⟩;obtain⟨r,h1,h2,h3,h4,_⟩:=g4 k o' ho';rw[h4];simp only[Cz,if_true,Ef,ho',FX,h1];rw[←ih];simp only[Y0,h1]
 obtain⟨r,h1,h2,h3,h4,h5,h6⟩:=g4 i o ho
 have hi:i<ops.length:=by
  rcases Nat.lt_or_ge i ops.length with h|h
  ·exact h
  ·rw[List.getElem?_eq_none h]at ho;cases ho
 refine⟨r,h1,?_,?_,h2,h3,h5,h6⟩
 ·rw[←ht i (by omega)];simp only[Y0,h1]
 ·simp only[CI,h1]
theorem LA.grow1{cf:CD}{ops:List Oper}{t t':AE}{m m':Mem}{rs:List Rec}(R:LA P K G n cf ops t m rs t' m'){i:Nat}(hi:i<ops.length):Dx (CI rs m' i) (CI rs m' (i+1)):=by
 obtain⟨r,h1,h2,h3,h4,h5,h6,h7⟩:=R.step (i:=i) (o:=ops[i]) (by simp)
 rw[←h3]
 cases hw:r.want with
 |true=>exact PH R.grw (h6 hw)
 |false=>rw[(h7 hw).2];exact Dx.refl _
theorem LA.grow{cf:CD}{ops:List Oper}{t t':AE}{m m':Mem}{rs:List Rec}(R:LA P K G n cf ops t m rs t' m'){i:Nat}:∀k,i+k<=ops.length->Dx (CI rs m' i) (CI rs m' (i+k))
 |0,_=>Dx.refl _
 |k+1,h=>(R.grow k (by omega)).trans (R.grow1 (by omega))
theorem LA.mono{cf:CD}{ops:List Oper}{t t':AE}{m m':Mem}{rs:List Rec}(R:LA P K G n cf ops t m rs t' m'){i j:Nat}(h:i<=j)(hj:j<=ops.length):Dx (CI rs m' i) (CI rs m' j):=by
 have:=R.grow (i:=i) (j - i) (by omega)
 rw[show i+(j - i)=j by omega]at this
 exact this
theorem LA.topAt{cf:CD}{ops:List Oper}{t t':AE}{m m':Mem}{rs:List Rec}(R:LA P K G n cf ops t m rs t' m'){i:Nat}(h:i<=ops.length):(CI rs m' i).top:=by
 have:=(R.mono (Nat.zero_le i) h).top
 rw[R.zero]at this
 exact this R.top
theorem Kl(o:Op):B3 o=0\/B3 o=1\/B3 o=2:=by
 unfold B3;split<;>simp
theorem LA.light{cf:CD}{ops:List Oper}{t t':AE}{m m':Mem}{rs:List Rec}(R:LA P K G n cf ops t m rs t' m'){i:Nat}(hi:i<ops.length)(hk:BK ops i≠2):
  (CI rs m' (i+1)=CI rs m' i/\(BK ops i=1->FV rs i=false))\/(BK ops i=1/\FV rs i=true/\∃x q,E4 P G (Cz ops rs t (λ_=>true) i) ops[i].op=some (x,q)/\FX rs i=q.val (CI rs m' i).size/\CI rs m' (i+1)=(CI rs m' i).push x):=by
 obtain⟨r,h1,h2,h3,h4,h5,h6,h7⟩:=R.step (i:=i) (o:=ops[i]) (by simp)
 have hka:BK ops i=B3 ops[i].op:=by simp[BK,hi]
 have hv:FX rs i=r.v:=by simp[FX,h1]
 have hwt:FV rs i=r.want:=by simp[FV,h1]
 cases hw:r.want with
 |false=>exact .inl ⟨by rw[(h7 hw).2,h3],λ_=>by rw[hwt,hw]⟩
 |true=>
  have h8:=h6 hw;unfold Dj at h8;rw[hka]at hk ⊢;rcases Kl ops[i].op with hc|hc|hc
  ·rw[hc]at h8;simp only at h8;split at h8<;>simp at h8;exact .inl ⟨by rw[←h8.2,h3],λh=>by rw[hc]at h;cases h⟩
  ·rw[hc]at h8;simp only at h8;split at h8<;>simp at h8;rename_i x q hx;refine .inr ⟨hc,by rw[hwt,hw],x,q,by rw[←h2];exact hx,by rw[hv,←h8.1,h3],by rw[←h8.2,h3]⟩
  ·exact absurd hc hk
theorem LA.lightGet{cf:CD}{ops:List Oper}{t t':AE}{m m':Mem}{rs:List Rec}(R:LA P K G n cf ops t m rs t' m'){i:Nat}:∀k,i+k<=ops.length->(∀h,i<=h->h<i+k->BK ops h≠2)->
  ∀b,b< (CI rs m' i).size->(CI rs m' (i+k)).get b=(CI rs m' i).get b
 |0,_,_,b,hb=>rfl
 |k+1,h,hl,b,hb=>by
  have ih:=R.lightGet k (by omega) (λh g1 g2=>hl h g1 (by omega)) b hb;have hsz:=(R.mono (i:=i) (j:=i+k) (by omega) (by omega)).size;show(CI rs m' ((i+k)+1)).get b=_;rcases R.light (i:=i+k) (by omega) (hl _ (by omega) (by omega))with⟨e,_⟩|⟨_,_,x,q,_,_,e⟩
  ·rw[e];exact ih
  ·rw[e,Mem.get_push_ne _ (by omega)];exact ih
theorem LA.kept{cf:CD}{ops:List Oper}{t t':AE}{m m':Mem}{rs:List Rec}(R:LA P K G n cf ops t m rs t' m'){i j:Nat}(hij:i<=j)(hj:j<=ops.length)(hl:∀h,i<=h->h<j->BK ops h≠2):
  ∀b,b< (CI rs m' i).size->(CI rs m' j).get b=(CI rs m' i).get b:=by
 have:=R.lightGet (i:=i) (j - i) (by omega) (λh g1 g2=>hl h g1 (by omega))
 rw[show i+(j - i)=j by omega]at this
 exact this
theorem Im(ops:List Oper):∀(k i:Nat),i+k=ops.length->∃s,i<=s/\s<=ops.length/\(s<ops.length->BK ops s=2)/\∀h,i<=h->h<s->BK ops h≠2
 |0,i,h=>⟨i,Nat.le_refl _,by omega,λh'=>by omega,λh' g1 g2=>by omega⟩
 |k+1,i,h=>by
  by_cases hk:BK ops i=2
  ·exact⟨i,Nat.le_refl _,by omega,λ_=>hk,λh' g1 g2=>by omega⟩
  ·obtain⟨s,h1,h2,h3,h4⟩:=Im ops k (i+1) (by omega);refine⟨s,by omega,h2,h3,λh' g1 g2=>?_⟩;by_cases e:h'=i
   ·rw[e];exact hk
   ·exact h4 h' (by omega) g2
theorem LA.owner{cf:CD}{ops:List Oper}{t t':AE}{m m':Mem}{rs:List Rec}(R:LA P K G n cf ops t m rs t' m'){i:Nat}:∀k,i+k<=ops.length->∀b,(CI rs m' i).size<=b->b< (CI rs m' (i+k)).size->
  ∃j,i<=j/\j<i+k/\(CI rs m' j).size<=b/\b< (CI rs m' (j+1)).size
 |0,_,b,h1,h2=>by simp at h2;omega
 |k+1,h,b,h1,h2=>by
  rcases Nat.lt_or_ge b (CI rs m' (i+k)).size with hlt|hge
  ·obtain⟨j,g1,g2,g3,g4⟩:=R.owner k (by omega) b h1 hlt;exact⟨j,g1,by omega,g3,g4⟩
  ·exact⟨i+k,by omega,by omega,hge,h2⟩
end
end Go.DI
namespace Go.DI
section
variable{P:Program}{K:TypeId->Bool}{G B0 n:Nat}{cf:CD}{ops:Array Oper}{t t':AE}{m m':Mem}{rs:List Rec}
structure LB(P:Program)(K:TypeId->Bool)(G B0 n:Nat)(cf:CD)(ops:Array Oper)(t:AE)(m:Mem)(rs:List Rec)(t':AE)(m':Mem):Prop where
 hK:Plain P K
 hcf:CT P B0 G cf
 run:LA P K G n cf ops.toList t m rs t' m'
 stat:Kj ops.toList (Ci ops.toList [])=true
 c1:(MC ops.toList (Ci ops.toList [])).all (HP P K G ops.toList rs m')=true
 c2:(MD ops.toList (Ci ops.toList [])).all (Q5 rs m')=true
theorem LB.edges(R:LB P K G B0 n cf ops t m rs t' m'):Il ops.toList 0=true:=by
 have:=R.stat
 simp only[Kj,Bool.and_eq_true]at this
 exact this.1
theorem LB.pair(R:LB P K G B0 n cf ops t m rs t' m'){i j:Nat}(hi:i<ops.size)(hj:j<ops.size):MB ops.toList (Ci ops.toList []) i j=true:=by
 have:=R.stat
 simp only[Kj,Bool.and_eq_true,List.all_eq_true,List.mem_range]at this
 exact this.2 i (by simpa using hi) j (by simpa using hj)
theorem JY{a b:Nat}:Nat.blt a b=true↔a<b:=by
 unfold Nat.blt;rw[Nat.ble_eq];exact Iff.rfl
theorem LB.sep(R:LB P K G B0 n cf ops t m rs t' m'){i j:Nat}{x y:Oper}{d:Tmp}(hx:ops[i]?=some x)(hy:ops[j]?=some y)(hne:i≠j)(hd:x.dst=some d)(h:d∈Gw ops.toList y\/y.dst=some d):
  (i<j->FU (Ci ops.toList []) i j=true)/\(j<i->FU (Ci ops.toList []) j i=true):=by
 have hi:i<ops.size:=(Array.getElem?_eq_some_iff.1 hx).1
 have hj:j<ops.size:=(Array.getElem?_eq_some_iff.1 hy).1
 have:=R.pair hi hj
 unfold MB at this
 simp only[Array.getElem?_toList,hx,hy,hd,Bool.and_eq_true,Bool.or_eq_true]at this
 obtain⟨h1,_⟩:=this
 rcases h1 with(h1|h1)|h1
 ·exact absurd (Nat.eq_of_beq_eq_true h1) hne
 ·have hc:((Gw ops.toList y).contains d||y.dst==some d)=true:=by
   rcases h with h|h
   ·simp[h]
   ·simp[h]
  rw[hc]at h1;simp at h1
 ·refine⟨λhlt=>?_,λhlt=>?_⟩
  ·rw[JY.2 hlt]at h1;exact h1
  ·have:Nat.blt i j=false:=by
    cases hb:Nat.blt i j with
    |false=>rfl
    |true=>have:=JY.1 hb;omega
   rw[this]at h1;exact h1
theorem LB.heavy(R:LB P K G B0 n cf ops t m rs t' m'){i j:Nat}(hi:i<ops.size)(hj:j<ops.size)(h1:BK ops.toList i=2)(h2:BK ops.toList j=2)(hlt:i<j):FU (Ci ops.toList []) i j=true:=by
 have:=R.pair hi hj
 unfold MB at this
 simp only[BK,Array.getElem?_toList,Array.getElem?_eq_getElem hi,Array.getElem?_eq_getElem hj]at h1 h2
 simp only[Array.getElem?_toList,Array.getElem?_eq_getElem hi,Array.getElem?_eq_getElem hj,Bool.and_eq_true,Bool.or_eq_true]at this
 obtain⟨_,h3⟩:=this
 rcases h3 with h3|h3
 ·rw[h1,h2,JY.2 hlt]at h3;simp at h3
 ·exact h3
structure Inv(P:Program)(B0 G n:Nat)(ops:Array Oper)(t:AE)(m:Mem)(rs:List Rec)(m':Mem)(ι0:Ren)(w0:World)(a0:Act)(X:Nat->Bool)(ι:Ren)(M:Mem)(s:Nat)(a:Act)(w:World):Prop where
 tr:BV ι n (Cz ops.toList rs t X ops.size) a
 sN:s<=ops.size
 sh:s<ops.size->BK ops.toList s=2/\X s=false
 sb:∀h,h<s->BK ops.toList h=2->X h=true
 msz:M.size=(CI rs m' ops.size).size
 g1:∀b,b< (CI rs m' s).size->M.get b=(CI rs m' s).get b
 g2:∀i,s<i->i<ops.size->BK ops.toList i=1->FV rs i=true->X i=true->M.get (CI rs m' i).size=(CI rs m' (i+1)).get (CI rs m' i).size
 jn:∀i,i<ops.size->X i=false->∀b,(CI rs m' i).size<=b->b< (CI rs m' (i+1)).size->ι b=none
 rel:Rel B0 G ι M w
 stp:Dd ι0 ι m M w0 w
 dfr:a.defers=a0.defers
def UX(ops:Array Oper)(X:Nat->Bool):Prop:=∀(j:Nat) (o:Oper),ops.toList[j]?=some o->X j=true->∀e∈o.after.toList,Region.binds .any e=true->X e.on=true
def F7(X:Nat->Bool)(i:Nat):Nat->Bool:=λk=>if k=i then true else X k
variable{ι0 ι:Ren}{M:Mem}{w0 w:World}{a0 a:Act}{X:Nat->Bool}{s i:Nat}{o:Oper}
theorem LB.ready(R:LB P K G B0 n cf ops t m rs t' m')(hC:UX ops X)(ho:ops[i]?=some o)(hr:∀e∈o.after.toList,Region.binds .any e=true->X e.on=true):∀k,FU (Ci ops.toList []) k i=true->X k=true:=
 jk (X:=λk=>X k=true) R.edges (λj o' hj hx e he hb=>hC j o' hj hx e he hb) i o (by simpa using ho) hr
theorem LB.closed(R:LB P K G B0 n cf ops t m rs t' m')(hC:UX ops X){j:Nat}(hj:j<ops.size)(hx:X j=true):∀k,FU (Ci ops.toList []) k j=true->X k=true:=by
 have ho:ops[j]?=some ops[j]:=Array.getElem?_eq_getElem hj
 exact R.ready hC ho (λe he hb=>hC j _ (by simp) hx e he hb)
theorem Inv.looks(R:LB P K G B0 n cf ops t m rs t' m')(hC:UX ops X)(ho:ops[i]?=some o)(hr:∀e∈o.after.toList,Region.binds .any e=true->X e.on=true)(hx:X i=false){d:Tmp}(hd:d∈Gw ops.toList o):
  (Cz ops.toList rs t X ops.size).at d=(Cz ops.toList rs t (λ_=>true) i).at d:=by
 have hi:i<ops.size:=(Array.getElem?_eq_some_iff.1 ho).1
 refine S4 (by omega) (λk hk hdk=>?_) (λk hk hkN hdk=>?_)
 ·have hko:ops[k]?=some ops[k]:=Array.getElem?_eq_getElem (by omega);simp only[Ef,Array.getElem?_toList,hko]at hdk;exact R.ready hC ho hr k ((R.sep hko ho (by omega) hdk (.inl hd)).1 hk)
 ·by_cases e:k=i
  ·rw[e];exact hx
  ·have hko:ops[k]?=some ops[k]:=Array.getElem?_eq_getElem hkN;simp only[Ef,Array.getElem?_toList,hko]at hdk;have hb:=(R.sep hko ho (by omega) hdk (.inl hd)).2 (by omega);cases hxk:X k with
   |false=>rfl
   |true=>have:=R.closed hC hkN hxk i hb;rw[hx]at this;cases this
theorem Inv.evs(R:LB P K G B0 n cf ops t m rs t' m')(hC:UX ops X)(ho:ops[i]?=some o)(hr:∀e∈o.after.toList,Region.binds .any e=true->X e.on=true)(hx:X i=false):
  ∀x∈H7 o.op,ev G (Cz ops.toList rs t X ops.size) x=ev G (Cz ops.toList rs t (λ_=>true) i) x:=by
 intro x hxm
 refine Y2 λd hd=>Inv.looks R hC ho hr hx ?_
 subst hd
 exact List.mem_append_left _ (List.mem_filterMap.2 ⟨.tmp d,hxm,rfl⟩)
theorem Inv.want(R:LB P K G B0 n cf ops t m rs t' m')(hC:UX ops X)(hI:Inv P B0 G n ops t m rs m' ι0 w0 a0 X ι M s a w)(ho:ops[i]?=some o)(hr:∀e∈o.after.toList,Region.binds .any e=true->X e.on=true)(hx:X i=false):
  Region.wanted o (yielded ops a.tmps)=FV rs i:=by
 obtain⟨r,h1,h2,h3,h4,h5,_⟩:=R.run.step (i:=i) (o:=o) (by simpa using ho)
 rw[←KJ hI.tr]
 simp only[FV,h1,h5,h2]
 unfold Region.wanted
 cases hg:o.guard with
 |none=>rfl
 |some gw=>
  obtain⟨g,wv⟩:=gw
  have:EG ops.toList (Cz ops.toList rs t X ops.size) g=EG ops.toList (Cz ops.toList rs t (λ_=>true) i) g:=by
   unfold EG;cases hgo:ops.toList[g]? with
   |none=>rfl
   |some og=>
    cases hgd:og.dst with
    |none=>simp only[hgd]
    |some d=>
     simp only[hgd]
     rw[Inv.looks R hC ho hr hx (d:=d) (by
      refine List.mem_append_right _ ?_;simp[hg,hgo,hgd])]
  simp only[this]
theorem Inv.slots(R:LB P K G B0 n cf ops t m rs t' m')(hC:UX ops X)(hI:Inv P B0 G n ops t m rs m' ι0 w0 a0 X ι M s a w)(ho:ops[i]?=some o)(hx:X i=false){ι':Ren}(hle:ι.le ι'){v':Value}(hv:AV ι' (FX rs i) v'):
  BV ι' n (Cz ops.toList rs t (F7 X i) ops.size) (a.put o.dst v'):=by
 have hi:i<ops.size:=(Array.getElem?_eq_some_iff.1 ho).1
 obtain⟨r,h1,h2,h3,h4,_⟩:=R.run.step (i:=i) (o:=o) (by simpa using ho)
 have hd:Ef ops.toList i=o.dst:=by simp[Ef,ho]
 refine BV.congr (λd=>(Y4 hi hx (by simp[F7]) (λk hk=>by simp[F7,hk]) (λk d hk hkN hdk hdi=>?_) d).symm) (BV.putD (hI.tr.mono hle) (dst:=Ef ops.toList i) (by rw[hd];exact h4) hv|> λh=>by rw[hd]at h ⊢;exact h)
 have hko:ops[k]?=some ops[k]:=Array.getElem?_eq_getElem hkN
 rw[hd]at hdi
 have hdk':ops[k].dst=some d:=by simpa[Ef,hko]using hdk
 have hb:=(R.sep hko ho (by omega) hdk' (.inr hdi)).2 hk
 cases hxk:X k with
 |false=>rfl
 |true=>have:=R.closed hC hkN hxk i hb;rw[hx]at this;cases this
theorem Inv.here(R:LB P K G B0 n cf ops t m rs t' m')(hI:Inv P B0 G n ops t m rs m' ι0 w0 a0 X ι M s a w):Rel B0 G ι (CI rs m' s) w:=by
 have hs:=(R.run.mono hI.sN (by simp)).size
 exact hI.rel.restrict (R.run.topAt (by simp;exact hI.sN)) (by rw[hI.msz];simpa using hs) hI.g1
theorem Inv.quiet(R:LB P K G B0 n cf ops t m rs t' m')(hC:UX ops X)(hI:Inv P B0 G n ops t m rs m' ι0 w0 a0 X ι M s a w)(ho:ops[i]?=some o)(hx:X i=false)(hk:BK ops.toList i≠2)(hnot:BK ops.toList i=1->FV rs i=false){v':Value}(hv:AV ι (FX rs i) v'):
  Inv P B0 G n ops t m rs m' ι0 w0 a0 (F7 X i) ι M s (a.put o.dst v') w:=by
 have hne:s<ops.size->s≠i:=λh e=>hk (by rw[←e];exact(hI.sh h).1)
 refine⟨Inv.slots R hC hI ho hx (λ_ _ h=>h) hv,hI.sN,λh=>⟨(hI.sh h).1,?_⟩,λh h1 h2=>?_,hI.msz,hI.g1,λj h1 h2 h3 h4 h5=>?_,λj hj hxj=>hI.jn j hj ?_,hI.rel,hI.stp,(put_defers _ _ _).trans hI.dfr⟩
 ·simp[F7,hne h,(hI.sh h).2]
 ·unfold F7;split
  ·rfl
  ·exact hI.sb h h1 h2
 ·by_cases e:j=i
  ·rw[e]at h3 h4;rw[hnot h3]at h4;cases h4
  ·exact hI.g2 j h1 h2 h3 h4 (by simpa[F7,e]using h5)
 ·by_cases e:j=i
  ·rw[e]at hxj;simp[F7]at hxj
  ·simpa[F7,e]using hxj
theorem Inv.alloc(R:LB P K G B0 n cf ops t m rs t' m')(hC:UX ops X)(hI:Inv P B0 G n ops t m rs m' ι0 w0 a0 X ι M s a w)(ho:ops[i]?=some o)(hx:X i=false)(hk:BK ops.toList i=1){x:BI}{q:Made}
  (hval:FX rs i=q.val (CI rs m' i).size) (hpush:CI rs m' (i+1)=(CI rs m' i).push x) (hw:FV rs i=true) {ob:Obj} {k:Nat}
  (hnew:∀ι':Ren,ι.le ι'->Bd B0 ι' x ⟨w.heap.size,0,k⟩ (w.alloc ob)):
  ∃ι' M',Inv P B0 G n ops t m rs m' ι0 w0 a0 (F7 X i) ι' M' s (a.put o.dst (q.val w.heap.size)) (w.alloc ob):=by
 have hi:i<ops.size:=(Array.getElem?_eq_some_iff.1 ho).1
 have hL:ops.toList.length=ops.size:=by simp
 have hne:s<ops.size->s≠i:=λh e=>by have:=(hI.sh h).1;rw[e,hk]at this;cases this
 have hsi:s≠i:=by
  rcases Nat.lt_or_ge s ops.size with h|h
  ·exact hne h
  ·omega
 obtain⟨b0,hb0⟩:∃b0,b0=(CI rs m' i).size:=⟨_,rfl⟩
 have hsz1:(CI rs m' (i+1)).size=b0+1:=by rw[hpush,hb0];rfl
 have hU:b0<M.size:=by
  have:=(R.run.mono (i:=i+1) (j:=ops.size) (by omega) (by omega)).size;rw[hI.msz];omega
 have hnone:ι b0=none:=hI.jn i hi hx b0 (by omega) (by omega)
 have hgx:(CI rs m' (i+1)).get b0=x:=by rw[hpush,hb0,Mem.get_push_same]
 have hle:ι.le (λb=>if b=b0 then some ⟨w.heap.size,0,k⟩else ι b):=by
  intro b L hb;have:b≠b0:=by intro e;rw[e,hnone]at hb;cases hb
  simp[this,hb]
 have hkept:i<s->(CI rs m' s).get b0=x:=by
  intro his
  have main:∀c,i+1+c<=s->(CI rs m' (i+1+c)).get b0=x:=by
   intro c;induction c with
   |zero=>intro _;exact hgx
   |succ c ih=>
    intro hc;have ih:=ih (by omega);have hlt:i+1+c<ops.size:=by have:=hI.sN;omega
    by_cases hh:BK ops.toList (i+1+c)=2
    ·have hX:=hI.sb (i+1+c) (by omega) hh
     have hnb:FU (Ci ops.toList []) i (i+1+c)=false:=by
      cases hb:FU (Ci ops.toList []) i (i+1+c)with
      |false=>rfl
      |true=>have:=R.closed hC hlt hX i hb;rw[hx]at this;cases this
     have hmem:(i,i+1+c)∈MD ops.toList (Ci ops.toList []):=by
      unfold MD;refine List.mem_flatMap.2 ⟨i,List.mem_range.2 (by omega),?_⟩;rw[show Nat.beq (BK ops.toList i) 1=true by rw[hk];rfl,cond_true];refine List.mem_filterMap.2 ⟨i+1+c,List.mem_range.2 (by omega),?_⟩;have hbl:Nat.blt i (i+1+c)=true:=JY.2 (by omega);simp only[hbl,hh,hnb,Bool.true_and,Bool.not_false,Bool.and_true];rfl
     have:=List.all_eq_true.1 R.c2 _ hmem;unfold Q5 at this;obtain⟨r,h1,h2,h3,_⟩:=R.run.step (i:=i) (o:=o) (by simpa using ho);have hwr:r.want=true:=by simpa[FV,h1]using hw
     simp only[h1,hwr,Bool.not_true,Bool.false_or,h3]at this;have:=Y3 this;rw[←hb0,hgx]at this;exact this
    ·have:=R.run.kept (i:=i+1+c) (j:=i+1+c+1) (by omega) (by omega) (λh g1 g2=>by rw[show h=i+1+c by omega];exact hh) b0 (by
      have:=(R.run.mono (i:=i+1) (j:=i+1+c) (by omega) (by omega)).size;omega)
     show(CI rs m' (i+1+c+1)).get b0=x;rw[this];exact ih
  have:=main (s - (i+1)) (by omega);rw[show i+1+(s - (i+1))=s by omega]at this;exact this
 let M':Mem:=⟨λb=>if b=b0 then x else M.get b, .nil,M.size⟩
 have hg':∀b,M'.get b=if b=b0 then x else M.get b:=λb=>by simp[M',Mem.get,Tr.get_nil]
 have hrel:=Rel.lay (M':=M') hI.rel hU hnone rfl (by rw[hg'];simp) (λb hb=>by rw[hg'];simp[hb]) (hnew _ hle)
 have hdist:∀j,j<ops.size->j≠i->∀b,(CI rs m' j).size<=b->b< (CI rs m' (j+1)).size->b≠b0:=by
  intro j hj hji b h1 h2 e;rcases Nat.lt_or_ge j i with hlt|hge
  ·have:=(R.run.mono (i:=j+1) (j:=i) (by omega) (by omega)).size;omega
  ·have:=(R.run.mono (i:=i+1) (j:=j) (by omega) (by omega)).size;omega
 refine⟨_,M',Inv.slots R hC hI ho hx hle ?_,hI.sN,λh=>⟨(hI.sh h).1,?_⟩,λh h1 h2=>?_,hI.msz,λb hb=>?_,λj h1 h2 h3 h4 h5=>?_,λj hj hxj b h1 h2=>?_,hrel,?_,(put_defers _ _ _).trans hI.dfr⟩
 ·rw[hval,←hb0];exact Made.rel (k:=k) (by simp) q
 ·simp[F7,hsi,(hI.sh h).2]
 ·unfold F7;split
  ·rfl
  ·exact hI.sb h h1 h2
 ·rw[hg'];by_cases e:b=b0
  ·subst e
   have his:i<s:=by
    rcases Nat.lt_or_ge i s with h|h
    ·exact h
    ·have:=(R.run.mono (i:=s) (j:=i) h (by omega)).size;omega
   rw[if_pos rfl,hkept his]
  ·rw[if_neg e];exact hI.g1 b hb
 ·by_cases e:j=i
  ·subst e;rw[hg',if_pos hb0.symm,←hb0,hgx]
  ·rcases R.run.light (i:=j) (by omega) (by rw[h3];decide)with⟨_,g⟩|⟨_,_,x',q',_,_,g⟩
   ·rw[g h3]at h4;cases h4
   ·have hb1:(CI rs m' j).size< (CI rs m' (j+1)).size:=by rw[g];simp
    rw[hg',if_neg (hdist j h2 e _ (Nat.le_refl _) hb1)];exact hI.g2 j h1 h2 h3 h4 (by simpa[F7,e]using h5)
 ·have e:j≠i:=by intro e;rw[e]at hxj;simp[F7]at hxj
  simp only[hdist j hj e b h1 h2,if_false];exact hI.jn j hj (by simpa[F7,e]using hxj) b h1 h2
 ·have hms:m.size<=b0:=by
   have:=(R.run.mono (i:=0) (j:=i) (Nat.zero_le _) (by omega)).size;rw[R.run.zero]at this;omega
  refine⟨λb L hb=>hle _ _ (hI.stp.ext _ _ hb),λb hb=>?_,hI.stp.os,hI.stp.output,hI.stp.tape,by have:=hI.stp.hsize;simp;omega,λB hB hn=>?_,λb L h1 h2 hb=>?_,hI.stp.msize,λb hb hown=>?_⟩
  ·have:b≠b0:=by
    rcases hb with hb|hb
    ·omega
    ·have:M'.size=M.size:=rfl;omega
   simp only[this,if_false];exact hI.stp.out b hb
  ·have:=hI.stp.hsize;rw[show(w.alloc ob).heap[B]?=w.heap[B]? by show(w.heap.push ob)[B]?=_;rw[Array.getElem?_push,if_neg (by omega)]];exact hI.stp.frame B hB hn
  ·by_cases e:b=b0
   ·simp only[e,if_true]at hb;cases hb;exact .inl hI.stp.hsize
   ·simp only[e,if_false]at hb;exact hI.stp.new b L h1 h2 hb
  ·rw[hg',if_neg (by omega)]at hown;exact hI.stp.ownk b hb hown
theorem Inv.advance(R:LB P K G B0 n cf ops t m rs t' m')(hC:UX ops X)(hI:Inv P B0 G n ops t m rs m' ι0 w0 a0 X ι M s a w)(ho:ops[s]?=some o)(hx:X s=false){ι':Ren}{w':World}{v':Value}
  (hrel:Rel B0 G ι' (CI rs m' (s+1)) w') (hstp:Dd ι ι' (CI rs m' s) (CI rs m' (s+1)) w w') (hv:AV ι' (FX rs s) v'):
  ∃M' s',Inv P B0 G n ops t m rs m' ι0 w0 a0 (F7 X s) ι' M' s' (a.put o.dst v') w':=by
 have hi:s<ops.size:=(Array.getElem?_eq_some_iff.1 ho).1
 have hL:ops.toList.length=ops.size:=by simp
 have hks:=(hI.sh hi).1
 obtain⟨s',hs1,hs2,hs3,hs4⟩:=Im ops.toList (ops.size - (s+1)) (s+1) (by omega)
 have hkept:=R.run.kept (i:=s+1) (j:=s') hs1 hs2 (λh g1 g2=>hs4 h g1 g2)
 have z1:=(R.run.mono (i:=s) (j:=s+1) (by omega) (by omega)).size
 have z2:=(R.run.mono (i:=s+1) (j:=s') hs1 hs2).size
 have z3:=(R.run.mono (i:=s') (j:=ops.size) (by omega) (by omega)).size
 have z0:=(R.run.mono (i:=0) (j:=s) (Nat.zero_le _) (by omega)).size
 rw[R.run.zero]at z0
 have hms:=hI.msz
 let M':Mem:=⟨λb=>if b< (CI rs m' s').size then(CI rs m' s').get b else M.get b, .nil,M.size⟩
 have hg':∀b,M'.get b=if b< (CI rs m' s').size then(CI rs m' s').get b else M.get b:=λb=>by simp[M',Mem.get,Tr.get_nil]
 have hgl:∀b,b< (CI rs m' (s+1)).size->M'.get b=(CI rs m' (s+1)).get b:=λb hb=>by
  rw[hg',if_pos (by omega)];exact hkept b hb
 have hgh:∀b L,(CI rs m' (s+1)).size<=b->b<M.size->ι b=some L->M'.get b=M.get b:=by
  intro b L h1 h2 hb;rw[hg'];split
  ·rename_i hlt;obtain⟨j,g1,g2,g3,g4⟩:=R.run.owner (i:=s+1) (s' - (s+1)) (by omega) b h1 (by rw[show s+1+(s' - (s+1))=s' by omega];exact hlt);have hjN:j<ops.size:=by omega
   have hXj:X j=true:=by
    cases hxj:X j with
    |true=>rfl
    |false=>have:=hI.jn j hjN hxj b g3 g4;rw[this]at hb;cases hb
   rcases R.run.light (i:=j) (by omega) (hs4 j g1 (by omega))with⟨e,_⟩|⟨k1,k2,x,q,_,_,e⟩
   ·rw[e]at g4;omega
   ·have hbj:b=(CI rs m' j).size:=by rw[e]at g4;simp at g4;omega
    have hb2:=hI.g2 j (by omega) hjN k1 k2 hXj;rw[hbj,hb2];exact R.run.kept (i:=j+1) (j:=s') (by omega) hs2 (λh q1 q2=>hs4 h (by omega) q2) _ (by rw[e];simp)
  ·rfl
 have hout:∀b,(CI rs m' (s+1)).size<=b->ι' b=ι b:=λb hb=>hstp.out b (.inr hb)
 have hfr:∀b L,(CI rs m' (s+1)).size<=b->b<M.size->ι b=some L->(M.get b).live->w'.heap[L.block]?=w.heap[L.block]?:=by
  intro b L h1 h2 hb hlv;refine hstp.frame _ (hI.rel.old b L hb hlv) λb1 L1 k1 k2 k3 e=>?_;rw[←hI.g1 b1 k1]at k3;have l1:(M.get b1).live:=by cases hg:M.get b1<;>simp_all [BI.own,BI.live]
  have:=hI.rel.inj b1 b L1 L (by omega) h2 k2 hb l1 hlv ((hI.rel.blk b1 L1 (by omega) k2).own_floor k3) e;omega
 have hrel':Rel B0 G ι' M' w':=by
  refine⟨λb L hb hL=>?_,λb₁ b₂ L₁ L₂ h1 h2 h3 h4 l1 l2 g0 e=>?_,hrel.floor,hrel.glob,λb hb=>?_⟩
  ·rcases Nat.lt_or_ge b (CI rs m' (s+1)).size with hlt|hge
   ·rw[hgl b hlt];exact hrel.blk b L hlt hL
   ·rw[hout b hge]at hL;rw[hgh b L hge hb hL];have hbr:=hI.rel.blk b L hb hL;by_cases hlv:(M.get b).live
    ·exact hbr.mono hstp.ext (hfr b L hge hb hL hlv)
    ·cases hg:M.get b<;>simp_all [BI.live,Bd]
  ·have mixed:∀b₁ b₂ L₁ L₂,b₁< (CI rs m' (s+1)).size->(CI rs m' (s+1)).size<=b₂->b₂<M.size->ι' b₁=some L₁->ι' b₂=some L₂->(M'.get b₁).live->(M'.get b₂).live->B0<=L₁.block->L₁.block=L₂.block->False:=by
    intro b₁ b₂ L₁ L₂ h1 h2 h2' h3 h4 l1 l2 g0 e;rw[hout b₂ h2]at h4;rw[hgl b₁ h1]at l1;rw[hgh b₂ L₂ h2 h2' h4]at l2;rcases Nat.lt_or_ge b₁ (CI rs m' s).size with hlt|hge
    ·rw[hstp.out b₁ (.inl hlt)]at h3;have l1':=(R.run.grow1 (i:=s) (by omega)).live b₁ hlt l1;rw[←hI.g1 b₁ hlt]at l1';have:=hI.rel.inj b₁ b₂ L₁ L₂ (by omega) h2' h3 h4 l1' l2 g0 e;omega
    ·rcases hstp.new b₁ L₁ hge h1 h3 with g|⟨b0,L0,q1,q2,q3,q4⟩
     ·have:=hI.rel.old b₂ L₂ h4 l2;omega
     ·rw[←hI.g1 b0 q1]at q3;have l0:(M.get b0).live:=by cases hg:M.get b0<;>simp_all [BI.own,BI.live]
      have:=hI.rel.inj b0 b₂ L0 L₂ (by omega) h2' q2 h4 l0 l2 (Nat.le_trans g0 (Nat.le_of_eq q4.symm)) (q4.trans e);omega
   rcases Nat.lt_or_ge b₁ (CI rs m' (s+1)).size with hlt1|hge1
   ·rcases Nat.lt_or_ge b₂ (CI rs m' (s+1)).size with hlt2|hge2
    ·rw[hgl b₁ hlt1]at l1;rw[hgl b₂ hlt2]at l2;exact hrel.inj b₁ b₂ L₁ L₂ hlt1 hlt2 h3 h4 l1 l2 g0 e
    ·exact(mixed b₁ b₂ L₁ L₂ hlt1 hge2 h2 h3 h4 l1 l2 g0 e).elim
   ·rcases Nat.lt_or_ge b₂ (CI rs m' (s+1)).size with hlt2|hge2
    ·exact(mixed b₂ b₁ L₂ L₁ hlt2 hge1 h1 h4 h3 l2 l1 (Nat.le_trans g0 (Nat.le_of_eq e)) e.symm).elim
    ·rw[hout b₁ hge1]at h3;rw[hout b₂ hge2]at h4;rw[hgh b₁ L₁ hge1 h1 h3]at l1;rw[hgh b₂ L₂ hge2 h2 h4]at l2;exact hI.rel.inj b₁ b₂ L₁ L₂ h1 h2 h3 h4 l1 l2 g0 e
  ·have hb':M.size<=b:=hb;rw[hg',if_neg (by omega)];exact hI.rel.top b hb'
 refine⟨M',s',Inv.slots R hC hI ho hx hstp.ext hv,by omega,λh=>⟨hs3 (by omega),?_⟩,λh h1 h2=>?_,hI.msz,λb hb=>by rw[hg',if_pos hb],λj h1 h2 h3 h4 h5=>?_,λj hj hxj b h1 h2=>?_,hrel',?_,(put_defers _ _ _).trans hI.dfr⟩
 ·have hne:s'≠s:=by omega
  simp only[F7,hne,if_false];cases hxs:X s' with
  |false=>rfl
  |true=>
   have:=R.closed hC h hxs s (R.heavy hi h hks (hs3 (by omega)) (by omega));rw[hx]at this;cases this
 ·unfold F7;split
  ·rfl
  ·rename_i hne;rcases Nat.lt_or_ge h s with hlt|hge
   ·exact hI.sb h hlt h2
   ·exact absurd h2 (hs4 h (by omega) h1)
 ·have hne:j≠s:=by omega
  have hz:=(R.run.mono (i:=s') (j:=j) (by omega) (by omega)).size;rw[hg',if_neg (by omega)];exact hI.g2 j (by omega) h2 h3 h4 (by simpa[F7,hne]using h5)
 ·have hne:j≠s:=by intro e;rw[e]at hxj;simp[F7]at hxj
  have hxj':X j=false:=by simpa[F7,hne]using hxj
  rw[hstp.out b ?_]
  ·exact hI.jn j hj hxj' b h1 h2
  ·rcases Nat.lt_or_ge j s with hlt|hge
   ·have:=(R.run.mono (i:=j+1) (j:=s) (by omega) (by omega)).size;exact .inl (by omega)
   ·have:=(R.run.mono (i:=s+1) (j:=j) (by omega) (by omega)).size;exact .inr (by omega)
 ·exact Dd.inner hI.stp hstp z0 (by omega) hI.g1 rfl (λb hb=>hgl b (by omega))
end
end Go.DI
namespace Go.DI
section
variable{P:Program}{K:TypeId->Bool}{G B0 n:Nat}{cf:CD}{ops:Array Oper}{t t':AE}{m m':Mem}{rs:List Rec}
variable{ι0 ι:Ren}{M:Mem}{w0 w:World}{a0 a:Act}{X:Nat->Bool}{s i:Nat}{o:Oper}
theorem Inv.quietVal(R:LB P K G B0 n cf ops t m rs t' m')(hC:UX ops X)(hI:Inv P B0 G n ops t m rs m' ι0 w0 a0 X ι M s a w)(ho:ops[i]?=some o)(hr:∀e∈o.after.toList,Region.binds .any e=true->X e.on=true)(hx:X i=false)
  (hk:B3 o.op=0) {r:Rec} (h1:rs[i]?=some r) (hq:BN P K G r.t r.m o.op=some r.v) (hw:r.want=true) (hrm:r.m=CI rs m' i):
  BN P K G r.t (CI rs m' s) o.op=some r.v:=by
 have hi:i<ops.size:=(Array.getElem?_eq_some_iff.1 ho).1
 have hL:ops.toList.length=ops.size:=by simp
 cases hrd:EJ o.op with
 |false=>rw[Kk hrd (CI rs m' s)]at hq;exact hq
 |true=>
  cases hnx:Nu ops.toList i s with
  |true=>
   simp only[Nu,Bool.and_eq_true,List.all_eq_true,List.mem_range,Bool.or_eq_true,Bool.not_eq_true']at hnx;obtain⟨g1,g2⟩:=hnx;have his:i<=s:=Nat.le_of_ble_eq_true g1;rw[hrm]at hq;refine SZ (R.run.topAt (by omega)) (R.run.kept his (by have:=hI.sN;omega) λh k1 k2 e=>?_) hq;rcases g2 h k2 with g|g
   ·rw[e]at g;cases g
   ·have:=JY.1 g;omega
  |false=>
   have hfe:Nt ops.toList (Ci ops.toList []) i s=true:=by
    simp only[Nt,Bool.and_eq_true,Bool.or_eq_true,List.all_eq_true,List.mem_range,Bool.not_eq_true'];refine⟨?_,λh hh=>?_⟩
    ·rcases Nat.lt_or_ge s ops.size with hlt|hge
     ·right;refine⟨by rw[(hI.sh hlt).1];rfl,?_⟩;cases hb:FU (Ci ops.toList []) s i with
      |false=>rfl
      |true=>have:=R.ready hC ho hr s hb;rw[(hI.sh hlt).2]at this;cases this
     ·left;have:s=ops.size:=by have:=hI.sN;omega
      rw[this,hL];exact Nat.beq_refl _
    ·cases hkh:Nat.beq (BK ops.toList h) 2 with
     |false=>exact .inl rfl
     |true=>
      right;have hX:=hI.sb h hh (Nat.eq_of_beq_eq_true hkh);cases hb:FU (Ci ops.toList []) i h with
      |false=>rfl
      |true=>have:=R.closed hC (by have:=hI.sN;omega) hX i hb;rw[hx]at this;cases this
   have hmem:(i,s)∈MC ops.toList (Ci ops.toList []):=by
    unfold MC;refine List.mem_flatMap.2 ⟨i,List.mem_range.2 (by omega),?_⟩;simp only[Array.getElem?_toList,ho,hk,hrd];rw[show(Nat.beq 0 0 && true)=true from rfl,cond_true];refine List.mem_filterMap.2 ⟨s,List.mem_range.2 (by have:=hI.sN;omega),?_⟩;rw[hfe,hnx];rfl
   have:=List.all_eq_true.1 R.c1 _ hmem;unfold HP at this;simp only[h1,Array.getElem?_toList,ho,hw,Bool.not_true,Bool.false_or]at this;split at this
   ·rename_i v hv;rw[hv,S3 8 _ _ this]
   ·cases this
theorem Inv.listed(R:LB P K G B0 n cf ops t m rs t' m')(hI:Inv P B0 G n ops t m rs m' ι0 w0 a0 X ι M s a w)(hall:∀i,i<ops.size->X i=true)(ht':Y0 rs t' ops.size=t'):
  DZ B0 G n ι0 m w0 a0 t' m' a w:=by
 have hL:ops.toList.length=ops.size:=by simp
 have hs:s=ops.size:=by
  rcases Nat.lt_or_ge s ops.size with h|h
  ·have:=(hI.sh h).2;rw[hall s h]at this;cases this
  ·have:=hI.sN;omega
 have hlast:CI rs m' ops.size=m':=by rw[←hL];exact R.run.last
 have hg:∀b,b<m'.size->M.get b=m'.get b:=λb hb=>by have:=hI.g1 b;rw[hs,hlast]at this;exact this hb
 have htop:m'.top:=by rw[←hlast];exact R.run.topAt (by omega)
 have hms:M.size=m'.size:=by rw[hI.msz,hlast]
 have hrel:=hI.rel.restrict htop (by omega) hg
 have happ:∀k,k<=ops.size->Cz ops.toList rs t X k=Cz ops.toList rs t (λ_=>true) k:=by
  intro k;induction k with
  |zero=>intro _;rfl
  |succ k ih=>intro hk;simp only[Cz];rw[ih (by omega)];simp[hall k (by omega)]
 refine⟨ι,?_,hrel,⟨hI.stp.ext,λb hb=>hI.stp.out b (by omega),hI.stp.os,hI.stp.output,hI.stp.tape,hI.stp.hsize,hI.stp.frame,λb L h1 h2 hb=>hI.stp.new b L h1 (by omega) hb,by have:=hI.stp.msize;omega,λb hb ho=>hI.stp.ownk b hb ?_⟩,hI.dfr⟩
 ·have htr:=hI.tr;rw[happ _ (Nat.le_refl _)]at htr
  have:Cz ops.toList rs t (λ_=>true) ops.size=t':=by
   obtain⟨g1,g2,g3,g4⟩:=Ge _ _ _ _ _ _ R.run.eq
   have ht:∀k,k<=ops.size->Y0 rs t' k=Cz ops.toList rs t (λ_=>true) k:=by
    intro k;induction k with
    |zero=>intro _;exact g2
    |succ k ih=>
     intro hk;have ih:=ih (by omega);have ho':ops.toList[k]?=some ops[k]:=by rw[Array.getElem?_toList];exact Array.getElem?_eq_getElem (by omega)
     obtain⟨r,h1,h2,h3,h4,_⟩:=g4 k _ ho';rw[h4];simp only[Cz,if_true,Ef,ho',FX,h1];rw[←ih];simp only[Y0,h1]
   rw[←ht _ (Nat.le_refl _),ht']
  rw[this]at htr;exact htr
 ·have hsz:=hI.stp.msize;rw[hg b (by omega)];exact ho
theorem Inv.step(R:LB P K G B0 n cf ops t m rs t' m')(hC:UX ops X)(hI:Inv P B0 G n ops t m rs m' ι0 w0 a0 X ι M s a w)(ho:ops[i]?=some o)(hr:∀e∈o.after.toList,Region.binds .any e=true->X e.on=true)(hx:X i=false)
  {Q:Exit->Act->World->Prop} {k:Act->World->Prop} (hk:∀ι' M' s' a' w',Inv P B0 G n ops t m rs m' ι0 w0 a0 (F7 X i) ι' M' s' a' w'->k a' w'):wpOp P ops Q i k a w:=by
 have hi:i<ops.size:=(Array.getElem?_eq_some_iff.1 ho).1
 have hL:ops.toList.length=ops.size:=by simp
 obtain⟨r,h1,h2,h3,h4,h5,h6,h7⟩:=R.run.step (i:=i) (o:=o) (by simpa using ho)
 have hka:BK ops.toList i=B3 o.op:=by simp[BK,ho]
 have hwa:FV rs i=r.want:=by simp[FV,h1]
 have hva:FX rs i=r.v:=by simp[FX,h1]
 have hwant:=Inv.want R hC hI ho hr hx
 have hev:=Inv.evs R hC ho hr hx
 rw[←h2]at hev
 have hhere:=Inv.here R hI
 have hheavy:B3 o.op=2->i=s:=by
  intro hk2;rcases Nat.lt_trichotomy i s with hlt|heq|hgt
  ·have:=hI.sb i hlt (by rw[hka];exact hk2);rw[hx]at this;cases this
  ·exact heq
  ·have hsN:s<ops.size:=by omega
   have:=R.ready hC ho hr s (R.heavy hsN hi (hI.sh hsN).1 (by rw[hka];exact hk2) hgt);rw[(hI.sh hsN).2]at this;cases this
 unfold wpOp
 simp only[ho]
 cases hw:r.want with
 |false=>
  rw[if_neg (by rw[hwant,hwa,hw];simp)];have hvu:FX rs i=undef:=by rw[hva];exact(h7 hw).1
  by_cases hk2:B3 o.op=2
  ·obtain rfl:=hheavy hk2;have hmm:CI rs m' (i+1)=CI rs m' i:=by rw[(h7 hw).2,h3]
   obtain⟨M',s',hI'⟩:=Inv.advance R hC hI ho hx (ι':=ι) (w':=w) (v':=undef) (by rw[hmm];exact hhere) (by rw[hmm];exact Dd.refl _ _ _) (by rw[hvu];exact AV.undef _);exact hk _ _ _ _ _ hI'
  ·exact hk _ _ _ _ _ (Inv.quiet R hC hI ho hx (by rw[hka];exact hk2) (λ_=>by rw[hwa,hw]) (by rw[hvu];exact AV.undef _))
 |true=>
  rw[if_pos (by rw[hwant,hwa,hw])];refine .inl ?_;have h8:=h6 hw;unfold Dj at h8;rcases Kl o.op with hc|hc|hc
  ·rw[hc]at h8;simp only at h8;split at h8<;>simp at h8;rename_i v hv;have hv':BN P K G r.t r.m o.op=some r.v:=by rw[hv,h8.1]
   have hq:=Inv.quietVal R hC hI ho hr hx hc h1 hv' hw h3;rw[←PE (m:=CI rs m' s) hev]at hq;obtain⟨v',g1,g2⟩:=Q0 R.hK hhere hI.tr hq;unfold Oper.wp;rw[g1];exact hk _ _ _ _ _ (Inv.quiet R hC hI ho hx (by rw[hka,hc];decide) (λe=>by rw[hka,hc]at e;cases e) (by rw[hva];exact g2))
  ·rw[hc]at h8;simp only at h8;split at h8<;>simp at h8;rename_i x q hxq;rw[←PF hev]at hxq;obtain⟨ob,kk,g1,g2⟩:=ME (P:=P) hI.rel hI.tr hxq;obtain⟨ι',M',hI'⟩:=Inv.alloc R hC hI ho hx (by rw[hka];exact hc) (x:=x) (q:=q) (by rw[hva,←h8.1,h3]) (by rw[←h8.2,h3]) (by rw[hwa,hw]) g2;unfold Oper.wp;rw[g1];exact hk _ _ _ _ _ hI'
  ·obtain rfl:=hheavy hc;rw[hc]at h8;simp only at h8;rw[←PG (cf:=cf) (m:=r.m) hev,h3]at h8;refine QZ R.hK R.hcf hhere hI.tr h8 (λb q1 q2=>hI.jn i hi hx b q1 q2) λι' v' w' g1 g2 g3=>?_;obtain⟨M',s',hI'⟩:=Inv.advance R hC hI ho hx g2 g3 (by rw[hva];exact g1);exact hk _ _ _ _ _ hI'
theorem count_set{l:List Bool}{i:Nat}(h:l[i]?=some false):(l.set i true).count false+1=l.count false:=by
 induction l generalizing i with
 |nil=>simp at h
 |cons b l ih=>
  cases i with
  |zero=>simp at h;subst h;simp
  |succ i=>
   simp at h;have:=ih h;simp only[List.set_cons_succ,List.count_cons];omega
theorem S5(R:LB P K G B0 n cf ops t m rs t' m')(ht':Y0 rs t' ops.size=t'){Q:Exit->Act->World->Prop}(hQ:∀a' w',DZ B0 G n ι0 m w0 a0 t' m' a' w'->Q .normal a' w'):
  ∀(fuel:Nat) (listed:Array Bool) (ι:Ren) (M:Mem) (s:Nat) (a:Act) (w:World),listed.size=ops.size->listed.toList.count false=fuel->UX ops (λk=>listed.getD k false)->
   Inv P B0 G n ops t m rs m' ι0 w0 a0 (λk=>listed.getD k false) ι M s a w->wpAny P .any ops Q fuel listed a w:=by
 intro fuel
 have hL:ops.toList.length=ops.size:=by simp
 have hdone:∀(listed:Array Bool),listed.size=ops.size->Region.ready .any ops listed= []->∀i,i<ops.size->listed.getD i false=true:=by
  intro listed hsz hrd i;induction i using Nat.strongRecOn with
  |_ i ih=>
   intro hi;cases hl:listed.getD i false with
   |true=>rfl
   |false=>
    exfalso
    have:i∈Region.ready .any ops listed:=by
     rw[mem_ready];refine⟨?_,ops[i],Array.getElem?_eq_getElem hi,λe he hb=>?_⟩
     ·have hi':i<listed.size:=by omega
      simp[hi']at hl ⊢;exact hl
     ·have hlt:=H9 ops.toList 0 R.edges i ops[i] (by rw[Array.getElem?_toList];exact Array.getElem?_eq_getElem hi) e (by simpa using he) hb;exact ih e.on (by omega) (by omega)
    rw[hrd]at this;cases this
 have hstep:∀(fuel:Nat) (listed:Array Bool) (ι:Ren) (M:Mem) (s:Nat) (a:Act) (w:World),listed.size=ops.size->listed.toList.count false=fuel+1->UX ops (λk=>listed.getD k false)->
   Inv P B0 G n ops t m rs m' ι0 w0 a0 (λk=>listed.getD k false) ι M s a w->
   (∀(listed:Array Bool) (ι:Ren) (M:Mem) (s:Nat) (a:Act) (w:World),listed.size=ops.size->listed.toList.count false=fuel->UX ops (λk=>listed.getD k false)->
    Inv P B0 G n ops t m rs m' ι0 w0 a0 (λk=>listed.getD k false) ι M s a w->wpAny P .any ops Q fuel listed a w)->
   ∀i∈Region.ready .any ops listed,wpOp P ops Q i (wpAny P .any ops Q fuel (listed.setIfInBounds i true)) a w:=by
  intro fuel listed ι M s a w hsz hcnt hC hI ih i hi;rw[mem_ready]at hi;obtain⟨h0,o,ho,hall⟩:=hi;have hiN:i<ops.size:=(Array.getElem?_eq_some_iff.1 ho).1;have hil:i<listed.size:=by omega
  have hxf:listed.getD i false=false:=by simp[hil]at h0 ⊢;exact h0
  refine Inv.step R hC hI ho (λe he hb=>hall e (by simpa using he) hb) hxf λι' M' s' a' w' hI'=>?_
  have hXe:(λk=>(listed.setIfInBounds i true).getD k false)=F7 (λk=>listed.getD k false) i:=by
   funext k;unfold F7;by_cases e:k=i
   ·subst e;simp[hil]
   ·simp only[e,if_false];rw[getD_set_ne false (Ne.symm e)]
  refine ih _ ι' M' s' a' w' (by simp[hsz]) ?_ ?_ (by rw[hXe];exact hI')
  ·have hlf:listed.toList[i]?=some false:=by
    rw[Array.getElem?_toList,Array.getElem?_eq_getElem hil];simp[hil]at hxf;rw[hxf]
   have:=count_set hlf;have e1:(listed.setIfInBounds i true).toList=listed.toList.set i true:=by simp
   rw[e1];omega
  ·intro j oj hj hxj e he hb;by_cases hji:j=i
   ·subst hji
    have:oj=o:=by
     rw[Array.getElem?_toList,ho]at hj;exact(Option.some.inj hj).symm
    subst this;exact getD_set_true (hall e (by simpa using he) hb)
   ·refine getD_set_true (hC j oj hj ?_ e he hb);have hxj2:(listed.setIfInBounds i true).getD j false=true:=hxj;rw[getD_set_ne false (Ne.symm hji)]at hxj2;exact hxj2
 induction fuel with
 |zero=>
  intro listed ι M s a w hsz hcnt hC hI
  have hall:∀i,i<ops.size->listed.getD i false=true:=by
   intro i hi;cases hl:listed.getD i false with
   |true=>rfl
   |false=>
    exfalso;have hil:i<listed.size:=by omega
    have:false∈listed.toList:=by
     simp[hil]at hl;rw[←hl];exact Array.getElem_mem_toList hil
    have:=List.count_pos_iff.2 this;omega
  refine⟨?_,hQ a w (Inv.listed R hI hall ht')⟩;cases hrd:Region.ready .any ops listed with
  |nil=>rfl
  |cons i l=>
   exfalso;have hi:i∈Region.ready .any ops listed:=by rw[hrd];simp
   rw[mem_ready]at hi;obtain⟨h0,o,ho,_⟩:=hi;have hiN:i<ops.size:=(Array.getElem?_eq_some_iff.1 ho).1;have hil:i<listed.size:=by omega
   have:=hall i hiN;simp[hil]at h0 this;rw[h0]at this;cases this
 |succ fuel ih=>
  intro listed ι M s a w hsz hcnt hC hI;exact⟨λhrd=>hQ a w (Inv.listed R hI (hdone listed hsz hrd) ht'),hstep fuel listed ι M s a w hsz hcnt hC hI ih⟩
theorem Q6(hK:Plain P K)(hcf:CT P B0 G cf)(hg:Bc cf){Q:Exit->Act->World->Prop}(h:A6 P K G cf n ops.toList t m=some (t',m'))(hr:Rel B0 G ι m w)(ht:BV ι n t a)(hf:Dy ι m.size m'.size)
  (hQ:∀a' w',DZ B0 G n ι m w a t' m' a' w'->Q .normal a' w'):wpAny P .any ops Q ops.size (Array.replicate ops.size false) a {w with drawn:=w.drawn+1}:=by
 unfold A6 at h
 split at h<;>try (simp at h;done)
 rename_i hstat
 split at h<;>try (simp at h;done)
 rename_i rs t₁ m₁ hrec
 split at h<;>try (simp at h;done)
 rename_i hc1
 split at h<;>simp at h
 rename_i hc2
 obtain⟨rfl,rfl⟩:=h
 have hL:ops.toList.length=ops.size:=by simp
 have R:LB P K G B0 n cf ops t m rs t₁ m₁:=⟨hK,hcf,⟨hrec,hg,hr.top⟩,hstat,hc1,hc2⟩
 have hlast:CI rs m₁ ops.size=m₁:=by rw[←hL];exact R.run.last
 have htl:Y0 rs t₁ ops.size=t₁:=by unfold Y0;rw[List.getElem?_eq_none (by rw[R.run.len];omega)]
 have hrd:=hr.drew
 obtain⟨s,hs1,hs2,hs3,hs4⟩:=Im ops.toList ops.size 0 (by omega)
 have hkept:=R.run.kept (i:=0) (j:=s) (by omega) hs2 (λh _ g2=>hs4 h (by omega) g2)
 rw[R.run.zero]at hkept
 have z1:=(R.run.mono (i:=0) (j:=s) (by omega) hs2).size
 have z2:=(R.run.mono (i:=s) (j:=ops.size) (by omega) (by omega)).size
 rw[R.run.zero]at z1
 rw[hlast]at z2
 let M:Mem:=⟨λb=>if b< (CI rs m₁ s).size then(CI rs m₁ s).get b else .none, .nil,m₁.size⟩
 have hgM:∀b,M.get b=if b< (CI rs m₁ s).size then(CI rs m₁ s).get b else .none:=λb=>by simp[M,Mem.get,Tr.get_nil]
 have hlow:∀b L,b<m₁.size->ι b=some L->b<m.size:=by
  intro b L h1 h2;rcases Nat.lt_or_ge b m.size with h3|h3
  ·exact h3
  ·rw[hf b h3 h1]at h2;cases h2
 have hgl:∀b,b<m.size->M.get b=m.get b:=λb hb=>by rw[hgM,if_pos (by omega)];exact hkept b hb
 have hrelM:Rel B0 G ι M w.drew:=by
  refine⟨λb L hb hL=>?_,λb₁ b₂ L₁ L₂ h1 h2 h3 h4 l1 l2 g0 e=>?_,hrd.1.floor,hrd.1.glob,λb hb=>?_⟩
  ·have:=hlow b L hb hL;rw[hgl b this];exact hrd.1.blk b L this hL
  ·have q1:=hlow b₁ L₁ h1 h3;have q2:=hlow b₂ L₂ h2 h4;rw[hgl b₁ q1]at l1;rw[hgl b₂ q2]at l2;exact hrd.1.inj b₁ b₂ L₁ L₂ q1 q2 h3 h4 l1 l2 g0 e
  ·have hb':m₁.size<=b:=hb;rw[hgM];split
   ·omega
   ·rfl
 have hdr:({w with drawn:=w.drawn+1}:World)=w.drew:=rfl
 rw[hdr]
 have hX0:∀k,(Array.replicate ops.size false).getD k false=false:=λk=>by
  rcases Nat.lt_or_ge k ops.size with h|h
  ·simp[h]
  ·simp[h]
 refine S5 (ι0:=ι) (w0:=w.drew) (a0:=a) R htl (λa' w' ha=>hQ a' w' (DZ.trans hrd.2 rfl ha)) ops.size (Array.replicate ops.size false) ι M s a w.drew (by simp) (by simp) ?_ ?_
 ·intro j o _ hx;have hx2:(Array.replicate ops.size false).getD j false=true:=hx;rw[hX0 j]at hx2;cases hx2
 ·have happ:Cz ops.toList rs t (λk=>(Array.replicate ops.size false).getD k false) ops.size=t:=by
   have:∀k,Cz ops.toList rs t (λk=>(Array.replicate ops.size false).getD k false) k=t:=by
    intro k;induction k with
    |zero=>rfl
    |succ k ih=>
     simp only[Cz];have h0:=hX0 k;split
     ·rename_i h1;rw[h0]at h1;cases h1
     ·exact ih
   exact this _
  refine⟨by rw[happ];exact ht,by omega,λh=>⟨hs3 (by omega),hX0 _⟩,λh h1 h2=>absurd h2 (hs4 h (by omega) h1),hlast.symm▸rfl,λb hb=>by rw[hgM,if_pos hb],λi _ _ _ _ h5=>(by have h6:(Array.replicate ops.size false).getD i false=true:=h5;rw[hX0]at h6;cases h6),λi hi _ b h1 h2=>hf b ?_ ?_,hrelM,?_,rfl⟩
  ·have:=(R.run.mono (i:=0) (j:=i) (by omega) (by omega)).size;rw[R.run.zero]at this;omega
  ·have:=(R.run.mono (i:=i+1) (j:=ops.size) (by omega) (by omega)).size;rw[hlast]at this;omega
  ·refine⟨λ_ _ h=>h,λ_ _=>rfl,rfl,rfl,rfl,Nat.le_refl _,λ_ _ _=>rfl,λb L h1 h2 hb=>?_,by show m.size<=m₁.size;omega,λb hb ho=>?_⟩
   ·rw[hf b h1 h2]at hb;cases hb
   ·rw[hgl b hb]at ho;exact ho
theorem dc(Br:P.follows .mixedOrders=true)(hK:Plain P K)(hcf:CT P B0 G cf)(hg:Bc cf){id:Nat}{Q:Exit->Act->World->Prop}(h:A6 P K G cf n ops.toList t m=some (t',m'))(hr:Rel B0 G ι m w)(ht:BV ι n t a)(hf:Dy ι m.size m'.size)
  (hQ:∀a' w',DZ B0 G n ι m w a t' m' a' w'->Q .normal a' w'):(Code.region id ops true).wp P Q a w:=wp_region_any Br (Q6 hK hcf hg h hr ht hf hQ)
theorem Hy(hg:Bc cf){l:List Oper}(h:A6 P K G cf n l t m=some (t',m')):Dx m m':=by
 unfold A6 at h
 split at h<;>try (simp at h;done)
 split at h<;>try (simp at h;done)
 rename_i rs t₁ m₁ hrec
 split at h<;>try (simp at h;done)
 split at h<;>simp at h
 obtain⟨rfl,rfl⟩:=h
 have key:∀(ops l:List Oper) (t:AE) (m:Mem) (rs:List Rec) (t':AE) (m':Mem),Gd P K G cf n ops l t m=some (rs,t',m')->Dx m m':=by
  intro ops l;induction l with
  |nil=>intro t m rs t' m' h;simp[Gd]at h;rw[h.2.2];exact Dx.refl _
  |cons o l ih=>
   intro t m rs t' m' h;simp only[Gd]at h;split at h<;>try (simp at h;done)
   split at h
   ·split at h<;>try (simp at h;done)
    rename_i v m₂ hv;split at h<;>simp at h;rename_i h1;rw[←h.2.2];exact(PH hg hv).trans (ih _ _ _ _ _ h1)
   ·split at h<;>simp at h;rename_i h1;rw[←h.2.2];exact ih _ _ _ _ _ h1
 exact key _ _ _ _ _ _ _ hrec
theorem Ha(Br:P.follows .mixedOrders=true)(hK:Plain P K)(hcf:CT P B0 G cf)(hg:Bc cf):YU P B0 G n (A6 P K G cf n):=
 ⟨λops t m t' m' h=>(Hy hg h).size,λops id ι t m w a t' m' Q h hr ht hf hQ=>dc Br hK hcf hg h hr ht hf hQ⟩
theorem Fb:∀(k:Nat),Bc (Cr P K G k)
 |0,f,args,m,v,m',h=>by simp[Cr]at h
 |k+1,f,args,m,v,m',h=>by
  have ih:=Fb k;simp only[Cr]at h;split at h<;>try (simp at h;done)
  split at h<;>try (simp at h;done)
  split at h<;>try (simp at h;done)
  all_goals
   rename_i hc;split at h<;>simp at h;rw[←h.2];exact KN ih (λ_ _ _ _ _ h=>Hy ih h) _ _ _ _ _ _ hc
theorem MF:∀(l:List Value) (i d:Nat),(GF i l).at d=if i<=d then(match l[d - i]? with|some v=>v|none=>undef)else undef
 | [],i,d=>by
  have:(GF i []:AE).at d=undef:=by simp[GF,AE.at,Tr.get_nil]
  rw[this];simp
 |v::l,i,d=>by
  simp only[GF,AE.at_set,MF l (i+1) d];by_cases h1:d=i
  ·subst h1;simp
  ·simp only[h1,if_false];by_cases h2:i+1<=d
   ·rw[if_pos h2,if_pos (by omega),show d - i=(d - (i+1))+1 by omega];rfl
   ·rw[if_neg h2,if_neg (by omega)]
theorem PI(hr:Rel B0 G ι m w)(ht:BV ι n t a):∀{l:List ResultVar} {vs:List Value},DM P t m l=some vs->
  ∃vs',(l.mapM (λ(q:ResultVar)=>(match q with| .tmp t=>(pure (a.tmps.getD t undef):Sem Value)| .cell x t=>(do loadVar t (←asAddr (a.tmps.getD x undef)):Sem Value)))).run P w= .ok vs' w/\B7 ι vs vs'
 | [],vs,h=>by simp[DM]at h;subst h;exact⟨[],by simp, .nil⟩
 | .tmp d::l,vs,h=>by
  simp only[DM]at h;split at h<;>simp at h;rename_i us hus;subst h;obtain⟨us',h1,h2⟩:=PI hr ht hus;refine⟨a.tmps.getD d undef::us',?_, .cons (ht.2 d) h2⟩;rw[List.mapM_cons];simp only[Sem.run_bind,Sem.run_pure,Result.andThen_ok,h1]
 | .cell x ty::l,vs,h=>by
  simp only[DM]at h;split at h<;>try (simp at h;done)
  rename_i v hv;split at h<;>simp at h;rename_i us hus;subst h;obtain⟨us',h1,h2⟩:=PI hr ht hus;obtain⟨v',g1,g2⟩:=Q7 (P:=P) hr (ht.2 x) hv
  have hp:∃ad,a.tmps.getD x undef= .pointer (some ad):=by
   have:=ht.2 x;unfold Dq at hv;split at hv<;>try (simp at hv;done)
   rename_i b off hb;rw[hb]at this;obtain⟨L,_,e⟩:=this.inv_ptr;exact⟨_,e⟩
  obtain⟨ad,had⟩:=hp;refine⟨v'::us',?_, .cons g2 h2⟩;rw[List.mapM_cons];rw[had]at g1;simp only[Instr.loadAt,Instr.sureAddr,Sem.run_bind,Sem.run_pure,Result.andThen_ok]at g1;have hA:(asAddr (a.tmps.getD x undef)).run P w= .ok ad w:=by rw[had];rfl
  simp only[Sem.run_bind,Sem.run_pure,Result.andThen_ok,hA,g1,h1]
theorem Fo(hr:Rel B0 G ι m w)(ht:BV ι n t a){fn:Func}{vs:List Value}(h:DM P t m fn.results.toList=some vs):∃v',(results fn a.tmps).run P w= .ok v' w/\AV ι (FT vs) v':=by
 obtain⟨vs',h1,h2⟩:=PI hr ht h
 have hm:(fn.results.mapM (λ(q:ResultVar)=>(match q with| .tmp t=>(pure (a.tmps.getD t undef):Sem Value)| .cell x t=>(do loadVar t (←asAddr (a.tmps.getD x undef)):Sem Value)))).run P w= .ok vs'.toArray w:=by
  rw[Array.mapM_eq_mapM_toList];simp only[Sem.run_map,h1,Result.andThen_ok]
 refine⟨if h:vs'.toArray.size=1 then vs'.toArray[0]else .tuple vs'.toArray,?_,?_⟩
 ·simp only[results,Sem.run_bind];change (((fn.results.mapM (λ(q:ResultVar)=>(match q with| .tmp t=>(pure (a.tmps.getD t undef):Sem Value)| .cell x t=>(do loadVar t (←asAddr (a.tmps.getD x undef)):Sem Value)))).run P w).andThen _)=_;rw[hm];rfl
 ·cases h2 with
  |nil=>exact AV.tuple' .nil
  |cons h0 t0=>
   cases t0 with
   |nil=>simpa[FT]using h0
   |cons h0' t0'=>
    simp only[FT];rw[dif_neg (by simp)];exact AV.tuple' (.cons h0 (.cons h0' t0'))
def O2(P:Program):Prop:=∀(f:FuncId) (fn:Func),P.funcs[f]?=some fn→fn.body.isNone=false→(fn.name== "runtime.NumGoroutine")=false
theorem JQ(Br:P.follows .mixedOrders=true)(hK:Plain P K)(FZ:O2 P):∀(k:Nat),CT P B0 G (Cr P K G k)
 |0=>⟨λf args m v m' h=>by simp[Cr]at h,λf args m v m' h=>by simp[Cr]at h,λf args m v m' h=>by simp[Cr]at h⟩
 |k+1=>by
  have ih:=JQ Br hK FZ k;refine⟨λf args m v m' h=>(Fb (k+1) f args m v m' h).size,λf args m v m' h=>?_,λf args m v m' h=>?_⟩
  ·simp only[Cr]at h;split at h<;>try (simp at h;done)
   rename_i fn hfn;split at h<;>try (simp at h;done)
   rename_i c hc;intro ι w args' hr hf hargs;have hlen:=hargs.length
   have ht0:BV ι (max args.length fn.ntmps) (GF 0 args) {tmps:=args'.toArray++Array.replicate (fn.ntmps - args'.toArray.size) undef,defers:= []}:=by
    refine⟨by simp;omega,λd=>?_⟩;rw[MF];simp only[Nat.zero_le,if_true,Nat.sub_zero];cases hd:args[d]? with
    |some v=>
     obtain⟨y,hy,hry⟩:=hargs.get hd
     have hlt:d<args'.length:=by
      rcases Nat.lt_or_ge d args'.length with h1|h1
      ·exact h1
      ·rw[List.getElem?_eq_none h1]at hy;cases hy
     have:(args'.toArray++Array.replicate (fn.ntmps - args'.toArray.size) undef).getD d undef=y:=by
      rw[Array.getD_eq_getD_getElem?,Array.getElem?_append_left (by simpa using hlt),List.getElem?_toArray,hy];rfl
     rw[this];exact hry
    |none=>
     have hge:args.length<=d:=List.getElem?_eq_none_iff.1 hd
     have:(args'.toArray++Array.replicate (fn.ntmps - args'.toArray.size) undef).getD d undef=undef:=by
      rw[Array.getD_eq_getD_getElem?,Array.getElem?_append_right (by simp;omega),Array.getElem?_replicate];split<;>rfl
     rw[this];exact AV.undef _
   have fin:∀(e:Ex) (t':AE) (m₁:Mem),AH P K G (Cr P K G k) (A6 P K G (Cr P K G k) (max args.length fn.ntmps)) (max args.length fn.ntmps) k c (GF 0 args) m=some (e,t',m₁)->(e= .normal\/e= .ret)->
     (match DM P t' m₁ fn.results.toList with|some vs=>some (FT vs,m₁)|none=>none)=some (v,m')->
     Calls P f args'.toArray w λe w'=>∃v' ι',e= .returned v'/\AV ι' v v'/\Rel B0 G ι' m' w'/\Dd ι ι' m m' w w':=by
    intro e t' m₁ hcode he hres;split at hres<;>simp at hres;rename_i vs hvs;obtain⟨rfl,rfl⟩:=hres;refine calls_of_wp hfn hc (Gv hK ih (Ha Br hK ih (Fb k)) c _ _ _ _ _ hcode ι w _ _ hr ht0 hf λa' w' ha=>?_);obtain⟨ι',g1,g2,g3,g4⟩:=ha;obtain⟨v',q1,q2⟩:=Fo (P:=P) g2 g1 hvs;rcases he with rfl|rfl
    ·exact⟨g4,v',q1,v',ι',rfl,q2,g2,g3⟩
    ·exact⟨g4,v',q1,v',ι',rfl,q2,g2,g3⟩
   split at h<;>try (simp at h;done)
   ·rename_i t' m₁ hcode;exact fin _ _ _ hcode (.inl rfl) h
   ·rename_i t' m₁ hcode;exact fin _ _ _ hcode (.inr rfl) h
  ·simp only[Cr]at h;split at h<;>try (simp at h;done)
   rename_i fn hfn;split at h<;>try (simp at h;done)
   rename_i c hc;exact⟨fn,hfn,by simp[hc],FZ f fn hfn (by simp[hc])⟩
end
end Go.DI
namespace Go.DI
section
variable{α:Type}
def Eb(r:Option (Value×Mem))(k:Value->Mem->Option α):Option α:=match r with|some (v,m)=>k v m|none=>none
theorem eC{c:Prop} [Decidable c] (a:Option (Value×Mem)) (k:Value->Mem->Option α):Eb (if c then a else none) k=if c then Eb a k else none:=by split<;>rfl
theorem Yt{c:Prop} [Decidable c] {a b x:Option α} (h:c->a=b):(if c then a else x)=(if c then b else x):=by
 split
 ·exact h ‹_›
 ·rfl
section
variable(P:Program)(K:TypeId->Bool)(G:Nat)
end
end
end Go.DI
namespace Go.DI.Y
noncomputable section
variable{α:Type}
def ob{β:Type}(r:Option β)(q:β->Option α):Option α:=match r with|some v=>q v|none=>none
@[simp] theorem ob_some {β:Type} (v:β) (q:β->Option α):ob (some v) q=q v:=rfl
@[simp] theorem Um {β:Type} (q:β->Option α):ob none q=none:=rfl
section
variable{β:Type}
def gF(l:List (Nat×β)):Nat->Option β:=
 List.rec (motive:=λ_=>Nat->Option β) (λ_=>none) (λx _ ih k=>Prod.rec (motive:=λ_=>Option β) (λj v=>Bool.rec (motive:=λ_=>Option β) (ih k) (some v) (Nat.beq j k)) x) l
theorem RC(k:Nat):∀l:List (Nat×β),gF l k=Tr.look k l
 | []=>rfl
 |(j,v)::l=>by
  have ih:=RC k l;simp only[Tr.look];rw[←ih];show Bool.rec (motive:=λ_=>Option β) _ _ (Nat.beq j k)=_;cases Nat.beq j k<;>rfl
def eD(t:Tr β):Nat->Nat->Option β:=
 Tr.rec (motive:=λ_=>Nat->Nat->Option β) (λ_ _=>none)
  (λl _ k=>gF l k)
  (λ_ _ il ir p k=>Nat.rec (motive:=λ_=>Option β) (il (Nat.div p 2) k) (λ_ _=>ir (Nat.div p 2) k) (Nat.mod p 2)) t
theorem K0(p:Nat):(Nat.mod p 2=0/\Nat.beq (p % 2) 0=true)\/(Nat.mod p 2=1/\Nat.beq (p % 2) 0=false):=by
 have:p % 2=0\/p % 2=1:=by omega
 rcases this with h|h
 ·exact .inl ⟨h,by rw[h];rfl⟩
 ·exact .inr ⟨h,by rw[h];rfl⟩
theorem LV(k:Nat):∀(t:Tr β) (p:Nat),eD t p k=Tr.get t p k
 | .nil,p=>rfl
 | .bucket l,p=>RC k l
 | .node l r,p=>by
   have il:=LV k l (p / 2);have ir:=LV k r (p / 2);simp only[Tr.get];rw[←il,←ir];show Nat.rec (motive:=λ_=>Option β) _ _ (Nat.mod p 2)=_;rcases K0 p with⟨h1,h2⟩|⟨h1,h2⟩<;>rw[h1,h2] <;>rfl
def ju(key:Nat)(v:β)(l:List (Nat×β)):(List (Nat×β)->Option α)->Option α:=
 List.rec (motive:=λ_=>(List (Nat×β)->Option α)->Option α) (λq=>q [(key,v)])
  (λx l ih q=>Prod.rec (motive:=λ_=>Option α) (λj u=>Bool.rec (motive:=λ_=>Option α) (ih λr=>q ((j,u)::r)) (q ((key,v)::l)) (Nat.beq j key)) x) l
theorem Uo(key:Nat)(v:β):∀(l:List (Nat×β)) (q:List (Nat×β)->Option α),ju key v l q=q (Tr.upd key v l)
 | [],q=>rfl
 |(j,u)::l,q=>by
  have ih:=Uo key v l λr=>q ((j,u)::r);simp only[Tr.upd];show Bool.rec (motive:=λ_=>Option α) (ju key v l λr=>q ((j,u)::r)) _ (Nat.beq j key)=_;rw[ih];cases Nat.beq j key<;>rfl
def eE(d:Nat):Nat->Nat->β->(Tr β->Option α)->Option α:=
 Nat.rec (motive:=λ_=>Nat->Nat->β->(Tr β->Option α)->Option α) (λ_ key v q=>q (.bucket [(key,v)]))
  (λ_ ih p key v q=>Nat.rec (motive:=λ_=>Option α) (ih (Nat.div p 2) key v λl=>q (.node l .nil)) (λ_ _=>ih (Nat.div p 2) key v λr=>q (.node .nil r)) (Nat.mod p 2)) d
theorem Up(key:Nat)(v:β):∀(d p:Nat) (q:Tr β->Option α),eE d p key v q=q (Tr.new d p key v)
 |0,p,q=>rfl
 |d+1,p,q=>by
  have ih:=Up key v d (p / 2);simp only[Tr.new];show Nat.rec (motive:=λ_=>Option α) (eE d (p / 2) key v λl=>q (.node l .nil)) (λ_ _=>eE d (p / 2) key v λr=>q (.node .nil r)) (Nat.mod p 2)=_;rw[ih,ih];rcases K0 p with⟨h1,h2⟩|⟨h1,h2⟩<;>rw[h1,h2] <;>rfl
def eF(t:Tr β):Nat->Nat->Nat->β->(Tr β->Option α)->Option α:=
 Tr.rec (motive:=λ_=>Nat->Nat->Nat->β->(Tr β->Option α)->Option α)
  (λd p key v q=>eE d p key v q)
  (λl _ _ key v q=>ju key v l λl=>q (.bucket l))
  (λl r il ir d p key v q=>Nat.rec (motive:=λ_=>Option α) (il (Nat.sub d 1) (Nat.div p 2) key v λl=>q (.node l r)) (λ_ _=>ir (Nat.sub d 1) (Nat.div p 2) key v λr=>q (.node l r)) (Nat.mod p 2)) t
theorem P0(key:Nat)(v:β):∀(t:Tr β) (d p:Nat) (q:Tr β->Option α),eF t d p key v q=q (Tr.put t d p key v)
 | .nil,d,p,q=>Up key v d p q
 | .bucket l,d,p,q=>Uo key v l _
 | .node l r,d,p,q=>by
   have il:=λq=>P0 key v l (d - 1) (p / 2) q;have ir:=λq=>P0 key v r (d - 1) (p / 2) q;simp only[Tr.put];show Nat.rec (motive:=λ_=>Option α) (eF l (d - 1) (p / 2) key v λl=>q (.node l r)) (λ_ _=>eF r (d - 1) (p / 2) key v λr=>q (.node l r)) (Nat.mod p 2)=_;rw[il,ir];rcases K0 p with⟨h1,h2⟩|⟨h1,h2⟩<;>rw[h1,h2] <;>rfl
end
def Uq(t:AE)(d:Nat)(v:Value)(q:AE->Option α):Option α:=eF t 6 d d v q
theorem RD(t:AE)(d:Nat)(v:Value)(q:AE->Option α):Uq t d v q=q (t.set d v):=P0 _ _ _ _ _ _
def J7(m:Mem)(b:Nat)(x:BI)(q:Mem->Option α):Option α:=q (m.set b x)
theorem J8(m:Mem)(b:Nat)(x:BI)(q:Mem->Option α):J7 m b x q=q (m.set b x):=rfl
def NX(n:Nat)(q:Nat->Option α):Option α:=q n
theorem HC(n:Nat)(q:Nat->Option α):NX n q=q n:=rfl
def P1(m:Mem)(x:BI)(q:Mem->Option α):Option α:=q (m.push x)
theorem IK(m:Mem)(x:BI)(q:Mem->Option α):P1 m x q=q (m.push x):=rfl
def Mt(t:AE)(d:Nat)(q:Value->Option α):Option α:=Option.rec (motive:=λ_=>Option α) (q undef) (λv=>q v) (eD t d d)
theorem Mu(t:AE)(d:Nat)(q:Value->Option α):Mt t d q=q (t.at d):=by
 unfold Mt AE.at
 rw[LV]
 cases Tr.get t d d<;>rfl
def OO(m:Mem)(b:Nat):BI:=m.get b
theorem J9(m:Mem)(b:Nat):OO m b=m.get b:=rfl
def cellsOf(x:BI):(Bool->List Value->Option α)->Option α:=BI.rec (motive:=λ_=>(Bool->List Value->Option α)->Option α) (λ_=>none) (λo c q=>q o c) (λ_ _ _ _=>none) (λ_ _ _=>none) x
def IX(v:Value):(Nat->Nat->Option α)->Option α:=
 Value.rec (motive_1:=λ_=>(Nat->Nat->Option α)->Option α) (motive_2:=λ_=>Unit) (motive_3:=λ_=>Unit)
  (λ_ _=>none)
  (λ_ _ _=>none)
  (λ_ _ _=>none)
  (λ_ _ _ _=>none)
  (λ_ _=>none)
  (λa q=>Option.rec (motive:=λ_=>Option α) none (λad=>Addr.rec (motive:=λ_=>Option α) (λb off sp=>Option.rec (motive:=λ_=>Option α) (q b off) (λ_=>none) sp) ad) a)
  (λ_ _ _ _=>none)
  (λ_ _=>none)
  (λ_ _=>none)
  (λ_ _ _ _ _ _=>none)
  (λ_=>none)
  (λ_ _ _ _=>none)
  (λ_=>none)
  (λ_ _ _=>none)
  (λ_ _ _=>none)
  (λ_ _=>()) () (λ_ _ _ _=>()) v
def OB(v:Value):(Nat->Nat->Nat->Option α)->Option α:=
 Value.rec (motive_1:=λ_=>(Nat->Nat->Nat->Option α)->Option α) (motive_2:=λ_=>Unit) (motive_3:=λ_=>Unit)
  (λ_ _=>none)
  (λ_ _ _=>none)
  (λ_ _ _=>none)
  (λ_ _ _ _=>none)
  (λ_ _=>none)
  (λ_ _=>none)
  (λa n _ q=>Option.rec (motive:=λ_=>Option α) none (λad=>Addr.rec (motive:=λ_=>Option α) (λb off _=>q b off n) ad) a)
  (λ_ _=>none)
  (λ_ _=>none)
  (λ_ _ _ _ _ _=>none)
  (λ_=>none)
  (λ_ _ _ _=>none)
  (λ_=>none)
  (λ_ _ _=>none)
  (λ_ _ _=>none)
  (λ_ _=>()) () (λ_ _ _ _=>()) v
def asAgg(v:Value):(Array Value->Option α)->Option α->Option α:=
 Value.rec (motive_1:=λ_=>(Array Value->Option α)->Option α->Option α) (motive_2:=λ_=>Unit) (motive_3:=λ_=>Unit)
  (λ_ _ d=>d)
  (λ_ _ _ d=>d)
  (λ_ _ _ d=>d)
  (λ_ _ _ _ d=>d)
  (λ_ _ d=>d)
  (λ_ _ d=>d)
  (λ_ _ _ _ d=>d)
  (λ_ _ d=>d)
  (λ_ _ d=>d)
  (λ_ _ _ _ _ _ d=>d)
  (λ_ d=>d)
  (λ_ _ _ _ d=>d)
  (λ_ d=>d)
  (λcs _ q _=>q cs)
  (λ_ _ _ d=>d)
  (λ_ _=>()) () (λ_ _ _ _=>()) v
def asSl(v:Value):(Option Addr->Nat->Nat->Option α)->Option α->Option α:=
 Value.rec (motive_1:=λ_=>(Option Addr->Nat->Nat->Option α)->Option α->Option α) (motive_2:=λ_=>Unit) (motive_3:=λ_=>Unit)
  (λ_ _ d=>d)
  (λ_ _ _ d=>d)
  (λ_ _ _ d=>d)
  (λ_ _ _ _ d=>d)
  (λ_ _ d=>d)
  (λ_ _ d=>d)
  (λa n c q _=>q a n c)
  (λ_ _ d=>d)
  (λ_ _ d=>d)
  (λ_ _ _ _ _ _ d=>d)
  (λ_ d=>d)
  (λ_ _ _ _ d=>d)
  (λ_ d=>d)
  (λ_ _ _ d=>d)
  (λ_ _ _ d=>d)
  (λ_ _=>()) () (λ_ _ _ _=>()) v
def asPt(v:Value):(Option Addr->Option α)->Option α->Option α:=
 Value.rec (motive_1:=λ_=>(Option Addr->Option α)->Option α->Option α) (motive_2:=λ_=>Unit) (motive_3:=λ_=>Unit)
  (λ_ _ d=>d)
  (λ_ _ _ d=>d)
  (λ_ _ _ d=>d)
  (λ_ _ _ _ d=>d)
  (λ_ _ d=>d)
  (λa q _=>q a)
  (λ_ _ _ _ d=>d)
  (λ_ _ d=>d)
  (λ_ _ d=>d)
  (λ_ _ _ _ _ _ d=>d)
  (λ_ d=>d)
  (λ_ _ _ _ d=>d)
  (λ_ d=>d)
  (λ_ _ _ d=>d)
  (λ_ _ _ d=>d)
  (λ_ _=>()) () (λ_ _ _ _=>()) v
def asTup(v:Value):(Array Value->Option α)->Option α:=
 Value.rec (motive_1:=λ_=>(Array Value->Option α)->Option α) (motive_2:=λ_=>Unit) (motive_3:=λ_=>Unit)
  (λ_ _=>none)
  (λ_ _ _=>none)
  (λ_ _ _=>none)
  (λ_ _ _ _=>none)
  (λ_ _=>none)
  (λ_ _=>none)
  (λ_ _ _ _=>none)
  (λ_ _=>none)
  (λ_ _=>none)
  (λ_ _ _ _ _ _=>none)
  (λ_=>none)
  (λ_ _ _ _=>none)
  (λ_=>none)
  (λ_ _ _=>none)
  (λcs _ q=>q cs)
  (λ_ _=>()) () (λ_ _ _ _=>()) v
def asInt(v:Value):(IntKind->Int->Option α)->Option α->Option α:=
 Value.rec (motive_1:=λ_=>(IntKind->Int->Option α)->Option α->Option α) (motive_2:=λ_=>Unit) (motive_3:=λ_=>Unit)
  (λ_ _ d=>d)
  (λk n q _=>q k n)
  (λ_ _ _ d=>d)
  (λ_ _ _ _ d=>d)
  (λ_ _ d=>d)
  (λ_ _ d=>d)
  (λ_ _ _ _ d=>d)
  (λ_ _ d=>d)
  (λ_ _ d=>d)
  (λ_ _ _ _ _ _ d=>d)
  (λ_ d=>d)
  (λ_ _ _ _ d=>d)
  (λ_ d=>d)
  (λ_ _ _ d=>d)
  (λ_ _ _ d=>d)
  (λ_ _=>()) () (λ_ _ _ _=>()) v
def asBool(v:Value):Option α->Option α->Option α:=
 Value.rec (motive_1:=λ_=>Option α->Option α->Option α) (motive_2:=λ_=>Unit) (motive_3:=λ_=>Unit)
  (λb x y=>Bool.rec (motive:=λ_=>Option α) y x b)
  (λ_ _ _ _=>none)
  (λ_ _ _ _=>none)
  (λ_ _ _ _ _=>none)
  (λ_ _ _=>none)
  (λ_ _ _=>none)
  (λ_ _ _ _ _=>none)
  (λ_ _ _=>none)
  (λ_ _ _=>none)
  (λ_ _ _ _ _ _ _=>none)
  (λ_ _=>none)
  (λ_ _ _ _ _=>none)
  (λ_ _=>none)
  (λ_ _ _ _=>none)
  (λ_ _ _ _=>none)
  (λ_ _=>()) () (λ_ _ _ _=>()) v
def asBo(v:Value):(Bool->Option α)->Option α->Option α:=
 Value.rec (motive_1:=λ_=>(Bool->Option α)->Option α->Option α) (motive_2:=λ_=>Unit) (motive_3:=λ_=>Unit)
  (λb q _=>q b)
  (λ_ _ _ d=>d)
  (λ_ _ _ d=>d)
  (λ_ _ _ _ d=>d)
  (λ_ _ d=>d)
  (λ_ _ d=>d)
  (λ_ _ _ _ d=>d)
  (λ_ _ d=>d)
  (λ_ _ d=>d)
  (λ_ _ _ _ _ _ d=>d)
  (λ_ d=>d)
  (λ_ _ _ _ d=>d)
  (λ_ d=>d)
  (λ_ _ _ d=>d)
  (λ_ _ _ d=>d)
  (λ_ _=>()) () (λ_ _ _ _=>()) v
def PN(v:Value):(FuncId->List Value->List Value->Option α)->Option α:=
 Value.rec (motive_1:=λ_=>(FuncId->List Value->List Value->Option α)->Option α) (motive_2:=λ_=>Unit) (motive_3:=λ_=>Unit)
  (λ_ _=>none)
  (λ_ _ _=>none)
  (λ_ _ _=>none)
  (λ_ _ _ _=>none)
  (λ_ _=>none)
  (λ_ _=>none)
  (λ_ _ _ _=>none)
  (λ_ _=>none)
  (λ_ _=>none)
  (λfn a b _ _ q=>match fn with| .func f=>q f a.toList b.toList|_=>none)
  (λ_=>none)
  (λ_ _ _ _=>none)
  (λ_=>none)
  (λ_ _ _=>none)
  (λ_ _ _=>none)
  (λ_ _=>()) () (λ_ _ _ _=>()) v
def Yu(v:Value):Bool:=
 Value.rec (motive_1:=λ_=>Bool) (motive_2:=λ_=>Unit) (motive_3:=λ_=>Unit)
  (λ_=>true)
  (λ_ _=>true)
  (λ_ _=>true)
  (λ_ _ _=>true)
  (λ_=>true)
  (λ_=>true)
  (λ_ _ _=>true)
  (λ_=>true)
  (λ_=>true)
  (λ_ _ _ _ _=>true)
  true
  (λ_ _ _=>true)
  true
  (λ_ _=>false)
  (λ_ _=>false)
  (λ_ _=>()) () (λ_ _ _ _=>()) v
def isB(v:Value):Bool:=
 Value.rec (motive_1:=λ_=>Bool) (motive_2:=λ_=>Unit) (motive_3:=λ_=>Unit)
  (λ_=>true)
  (λ_ _=>false)
  (λ_ _=>false)
  (λ_ _ _=>false)
  (λ_=>false)
  (λ_=>false)
  (λ_ _ _=>false)
  (λ_=>false)
  (λ_=>false)
  (λ_ _ _ _ _=>false)
  false
  (λ_ _ _=>false)
  false
  (λ_ _=>false)
  (λ_ _=>false)
  (λ_ _=>()) () (λ_ _ _ _=>()) v
def rZ(v:Value):Bool:=
 Value.rec (motive_1:=λ_=>Bool) (motive_2:=λ_=>Unit) (motive_3:=λ_=>Unit)
  (λb=>b)
  (λ_ _=>false)
  (λ_ _=>false)
  (λ_ _ _=>false)
  (λ_=>false)
  (λ_=>false)
  (λ_ _ _=>false)
  (λ_=>false)
  (λ_=>false)
  (λ_ _ _ _ _=>false)
  false
  (λ_ _ _=>false)
  false
  (λ_ _=>false)
  (λ_ _=>false)
  (λ_ _=>()) () (λ_ _ _ _=>()) v
theorem Fp(v:Value)(q:Nat->Nat->Option α):IX v q=match v with| .pointer (some ⟨b,off,none⟩)=>q b off|_=>none:=by
 cases v<;>try rfl
 rename_i a
 cases a with
 |none=>rfl
 |some a=>obtain⟨b,off,sp⟩:=a;cases sp<;>rfl
theorem Yv(v:Value)(q:Nat->Nat->Nat->Option α):OB v q=match v with| .slice (some ⟨b,off,_⟩) n _=>q b off n|_=>none:=by
 cases v<;>try rfl
 rename_i a _ _
 cases a<;>rfl
theorem Ur(v:Value):Yu v=one v:=by cases v<;>rfl
def Yw(v:Value)(q:List Value->Option α):Option α:=asAgg v (λcs=>q cs.toList) (q [v])
theorem Wp(v:Value)(q:List Value->Option α):Yw v q=q v.cells.toList:=by cases v<;>rfl
def nthL(c:List Value):Nat->Option Value:=
 List.rec (motive:=λ_=>Nat->Option Value) (λ_=>none) (λa _ ih i=>Nat.rec (motive:=λ_=>Option Value) (some a) (λi' _=>ih i') i) c
theorem nthL_eq:∀(c:List Value) (i:Nat),nthL c i=c[i]?
 | [],i=>by simp;rfl
 |a::c,0=>rfl
 |a::c,i+1=>by
  have:=nthL_eq c i;rw[List.getElem?_cons_succ];exact this
def Yx(c:List Value)(i:Nat)(q:Value->Option α):Option α:=Option.rec (motive:=λ_=>Option α) none (λv=>q v) (nthL c i)
theorem P2(q:Value->Option α)(c:List Value)(i:Nat):Yx c i q=ob c[i]? q:=by
 unfold Yx
 rw[nthL_eq]
 cases c[i]?<;>rfl
def lenLF(l:List Value):Nat:=List.rec (motive:=λ_=>Nat) Nat.zero (λ_ _ ih=>Nat.succ ih) l
theorem lenLF_eq:∀l:List Value,lenLF l=l.length
 | []=>rfl
 |a::l=>by
  have:=lenLF_eq l;show Nat.succ (lenLF l)=_;rw[this];rfl
def gG(c:List Value)(n:Nat):List Value:=
 Nat.rec (motive:=λ_=>List Value->List Value) (λc=>c) (λ_ ih c=>List.rec (motive:=λ_=>List Value) [] (λ_ c' _=>ih c') c) n c
theorem RE:∀(c:List Value) (i:Nat),gG c i=c.drop i
 |c,0=>rfl
 | [],i+1=>rfl
 |a::c,i+1=>by
  rw[List.drop_succ_cons];exact RE c i
def gH(c:List Value):Nat->List Value:=
 List.rec (motive:=λ_=>Nat->List Value) (λ_=> []) (λa _ ih i=>Nat.rec (motive:=λ_=>List Value) [] (λi' _=>a::ih i') i) c
theorem RF:∀(c:List Value) (i:Nat),gH c i=c.take i
 | [],i=>by simp;rfl
 |a::c,0=>rfl
 |a::c,i+1=>by
  rw[List.take_succ_cons,←RF c i];rfl
def subL(c:List Value)(off n:Nat):List Value:=gH (gG c off) n
theorem subL_eq(c:List Value)(off n:Nat):subL c off n=(c.drop off).take n:=by rw[subL,RF,RE]
def jw(c:List Value)(off n:Nat)(q:List Value->Option α):Option α:=Bool.rec (motive:=λ_=>Option α) none (q (subL c off n)) (Nat.ble (Nat.add off n) (lenLF c))
theorem eG(n:Nat)(q:List Value->Option α)(c:List Value)(off:Nat):jw c off n q=if off+n<=c.length then q ((c.drop off).take n)else none:=by
 unfold jw
 rw[lenLF_eq,subL_eq]
 show Bool.rec (motive:=λ_=>Option α) none _ (Nat.ble (off+n) c.length)=_
 by_cases h:off+n<=c.length
 ·rw[if_pos h,Nat.ble_eq_true_of_le h]
 ·rw[if_neg h,show Nat.ble (off+n) c.length=false from Bool.eq_false_iff.2 λg=>h (Nat.le_of_ble_eq_true g)]
def Us(vs:List Value):List Value->(List Value->Option α)->Option α:=
 List.rec (motive:=λ_=>List Value->(List Value->Option α)->Option α) (λc q=>q c)
  (λv _ ih c q=>List.rec (motive:=λ_=>Option α) none (λ_ c' _=>Bool.rec (motive:=λ_=>Option α) none (ih c' λr=>q (v::r)) (Yu v)) c) vs
theorem Mv:∀(vs c:List Value) (q:List Value->Option α),Us vs c q=if vs.length<=c.length/\vs.all one=true then q (vs++c.drop vs.length)else none
 | [],c,q=>by simp;rfl
 |v::vs,[],q=>by simp;rfl
 |v::vs,a::c,q=>by
  have ih:=Mv vs c λr=>q (v::r);show Bool.rec (motive:=λ_=>Option α) none (Us vs c λr=>q (v::r)) (Yu v)=_;rw[ih,Ur];cases h:one v<;>simp[h]
def LW(c:List Value):Nat->List Value->(List Value->Option α)->Option α:=
 List.rec (motive:=λ_=>Nat->List Value->(List Value->Option α)->Option α) (λoff vs q=>Nat.rec (motive:=λ_=>Option α) (Us vs [] q) (λ_ _=>none) off)
  (λa c ih off vs q=>Nat.rec (motive:=λ_=>Option α) (Us vs (a::c) q) (λoff' _=>ih off' vs λr=>q (a::r)) off) c
theorem HD(vs:List Value):∀(c:List Value) (off:Nat) (q:List Value->Option α),LW c off vs q=if off+vs.length<=c.length then(if vs.all one=true then q (splice c off vs)else none)else none
 | [],0,q=>by
  have:=Mv vs [] q;simp only[splice,Nat.zero_add,List.take_zero,List.nil_append];refine Eq.trans this ?_;by_cases h1:vs.length<=([]:List Value).length<;>by_cases h2:vs.all one=true<;>simp only[h1,h2,and_true,and_false,if_true,if_false,true_and,false_and]
 | [],off+1,q=>by rw[if_neg (by simp)];rfl
 |a::c,0,q=>by
  have:=Mv vs (a::c) q;simp only[splice,Nat.zero_add,List.take_zero,List.nil_append];refine Eq.trans this ?_;by_cases h1:vs.length<=(a::c).length<;>by_cases h2:vs.all one=true<;>simp only[h1,h2,and_true,and_false,if_true,if_false,true_and,false_and]
 |a::c,off+1,q=>by
  have ih:=HD vs c off λr=>q (a::r);have e:(off+1+vs.length<=(a::c).length)=(off+vs.length<=c.length):=by simp;omega
  have e2:splice (a::c) (off+1) vs=a::splice c off vs:=by
   have:off+1+vs.length=(off+vs.length)+1:=by omega
   simp[splice,this]
  simp only[e,e2];exact ih
def PO(a:List Value):List Value->(List Value->Option α)->Option α:=
 List.rec (motive:=λ_=>List Value->(List Value->Option α)->Option α) (λb q=>q b) (λx _ ih b q=>ih b λr=>q (x::r)) a
theorem PR:∀(a b:List Value) (q:List Value->Option α),PO a b q=q (a++b)
 | [],b,q=>rfl
 |x::a,b,q=>PR a b λr=>q (x::r)
def evF(x:Operand):Nat->AE->(Value->Option α)->Option α:=
 Operand.rec (motive:=λ_=>Nat->AE->(Value->Option α)->Option α) (λd _ t q=>Mt t d q) (λv _ _ q=>Bool.rec (motive:=λ_=>Option α) none (q v) (EH v))
  (λg G _ q=>Bool.rec (motive:=λ_=>Option α) none (q (.pointer (some ⟨g,0,none⟩))) (Nat.blt g G)) (λf _ _ q=>q (.func (.func f) #[] #[])) x
theorem BZ(x:Operand)(G:Nat)(t:AE)(q:Value->Option α):evF x G t q=ob (ev G t x) q:=by
 cases x with
 |tmp d=>exact Mu t d q
 |const v=>
  show Bool.rec (motive:=λ_=>Option α) none (q v) (EH v)=_;simp only[ev];cases EH v<;>rfl
 |global g=>
  show Bool.rec (motive:=λ_=>Option α) none (q (.pointer (some ⟨g,0,none⟩))) (Nat.blt g G)=_;simp only[ev];by_cases h:g<G
  ·have:Nat.blt g G=true:=by simpa[Nat.blt_eq]using h
   rw[this,if_pos h];rfl
  ·have:Nat.blt g G=false:=by
    cases hb:Nat.blt g G with
    |false=>rfl
    |true=>exact absurd (by simpa[Nat.blt_eq]using hb) h
   rw[this,if_neg h];rfl
 |func f=>rfl
def Wa(l:List Operand):Nat->AE->(List Value->Option α)->Option α:=
 List.rec (motive:=λ_=>Nat->AE->(List Value->Option α)->Option α) (λ_ _ q=>q []) (λx _ ih G t q=>evF x G t λv=>ih G t λvs=>q (v::vs)) l
theorem PQ(G:Nat)(t:AE):∀(l:List Operand) (q:List Value->Option α),Wa l G t q=ob (evs G t l) q
 | [],q=>rfl
 |x::l,q=>by
  have ih:=PQ G t l;show(evF x G t λv=>Wa l G t λvs=>q (v::vs))=_;rw[BZ];simp only[evs];cases ev G t x with
  |none=>rfl
  |some v=>
   simp only[ob_some,ih];cases evs G t l<;>rfl
end
end Go.DI.Y
namespace Go.DI.Y
noncomputable section
variable{α:Type}
theorem Sd(a b:Nat):Nat.beq a b=decide (a=b):=by
 rw[Bool.eq_iff_iff];simp[Nat.beq_eq]
def tA(k:IntKind):Nat:=IntKind.rec (motive:=λ_=>Nat) 0 1 2 3 4 5 6 7 k
def kEq(k k':IntKind):Bool:=Nat.beq (tA k) (tA k')
theorem Sp(k k':IntKind):kEq k k'=decide (k=k'):=by cases k<;>cases k'<;>rfl
def Yy(k:IntKind)(n:Int)(q:Int->Option α):Option α:=q (k.wrap n)
def bN(b:Bool)(q:Value->Option α):Option α:=Bool.rec (motive:=λ_=>Option α) (q (.bool false)) (q (.bool true)) b
theorem Hh(b:Bool)(q:Value->Option α):bN b q=q (.bool b):=by cases b<;>rfl
def ltF(x y:Int):Bool:=Int.rec (motive:=λ_=>Bool) (λa=>Int.rec (motive:=λ_=>Bool) (λb=>Nat.blt a b) (λ_=>false) y) (λa=>Int.rec (motive:=λ_=>Bool) (λ_=>true) (λb=>Nat.blt b a) y) x
theorem ltF_eq(x y:Int):ltF x y=decide (x<y):=by
 cases x<;>cases y
 ·rename_i a b;show Nat.blt a b=_;rw[Bool.eq_iff_iff];simp[Nat.blt_eq]
 ·show false=_;symm;rw[decide_eq_false_iff_not];simp only[Int.ofNat_eq_natCast];omega
 ·show true=_;symm;rw[decide_eq_true_iff];simp only[Int.ofNat_eq_natCast];omega
 ·rename_i a b;show Nat.blt b a=_;rw[Bool.eq_iff_iff];simp only[Nat.blt_eq,decide_eq_true_eq];omega
def eqF(x y:Int):Bool:=Int.rec (motive:=λ_=>Bool) (λa=>Int.rec (motive:=λ_=>Bool) (λb=>Nat.beq a b) (λ_=>false) y) (λa=>Int.rec (motive:=λ_=>Bool) (λ_=>false) (λb=>Nat.beq a b) y) x
theorem eqF_eq(x y:Int):eqF x y=(x==y):=by
 have hb:(x==y)=decide (x=y):=by rw[Bool.eq_iff_iff];simp
 rw[hb]
 cases x<;>cases y
 ·rename_i a b;show Nat.beq a b=_;rw[Sd];simp;omega
 ·show false=_;symm;rw[decide_eq_false_iff_not];simp only[Int.ofNat_eq_natCast];omega
 ·show false=_;symm;rw[decide_eq_false_iff_not];simp only[Int.ofNat_eq_natCast];omega
 ·rename_i a b;show Nat.beq a b=_;rw[Sd];simp
def Yz(op:BinOp):IntKind->Int->Int->(Value->Option α)->Option α->Option α:=
 BinOp.rec (motive:=λ_=>IntKind->Int->Int->(Value->Option α)->Option α->Option α)
  (λk x y q _=>Yy k (Int.add x y) λn=>q (.int k n))
  (λk x y q _=>Yy k (Int.sub x y) λn=>q (.int k n))
  (λk x y q _=>Yy k (Int.mul x y) λn=>q (.int k n))
  (λ_ _ _ _ g=>g) (λ_ _ _ _ g=>g) (λ_ _ _ _ g=>g) (λ_ _ _ _ g=>g) (λ_ _ _ _ g=>g) (λ_ _ _ _ g=>g) (λ_ _ _ _ g=>g) (λ_ _ _ _ g=>g)
  (λ_ x y q _=>bN (eqF x y) q)
  (λ_ x y q _=>bN (not (eqF x y)) q)
  (λ_ x y q _=>bN (ltF x y) q)
  (λ_ x y q _=>bN (not (ltF y x)) q)
  (λ_ x y q _=>bN (ltF y x) q)
  (λ_ x y q _=>bN (not (ltF x y)) q) op
theorem ZA{op:BinOp}{k:IntKind}{x y:Int}{q:Value->Option α}{g:Option α}(hg:g=ob (cond (CN op) (KK op k x y) (CA op k x y)) q):Yz op k x y q g=g:=by
 cases op<;>try rfl
 all_goals simp only[CN,cond_false,CA,ob_some]at hg;subst hg
 ·rfl
 ·rfl
 ·rfl
 ·refine(Hh _ _).trans ?_;rw[eqF_eq]
 ·refine(Hh _ _).trans ?_;rw[eqF_eq];try rfl
 ·refine(Hh _ _).trans ?_;rw[ltF_eq]
 ·refine(Hh _ _).trans ?_;rw[ltF_eq];congr 2;rw[Bool.eq_iff_iff];simp
 ·refine(Hh _ _).trans ?_;rw[ltF_eq];try rfl
 ·refine(Hh _ _).trans ?_;rw[ltF_eq];congr 2;rw[Bool.eq_iff_iff];simp
section
variable(P:Program)(K:TypeId->Bool)
def eH(r:Option Value)(q:Value->Option α):Option α:=ob r q
theorem Ut(r:Option Value)(q:Value->Option α):eH r q=ob r q:=rfl
def r6(op:BinOp)(ty:TypeId)(x y:Value)(q:Value->Option α):Option α:=
 match x with
 | .agg xs=>(match y with
  | .agg ys=>(match K ty with
   |true=>(match op with
    | .eql=>Option.rec (motive:=λ_=>Option α) none (λr=>bN r q) (KL P K 100 ty (.agg xs) (.agg ys))
    | .neq=>Option.rec (motive:=λ_=>Option α) none (λr=>bN (not r) q) (KL P K 100 ty (.agg xs) (.agg ys))
    |_=>none)
   |false=>none)
  |_=>none)
 |x=>ob (CC P K op ty x y) q
theorem jx(op:BinOp)(ty:TypeId)(x y:Value)(q:Value->Option α):r6 P K op ty x y q=ob (CC P K op ty x y) q:=by
 unfold r6
 cases x<;>try rfl
 cases y<;>try rfl
 simp only[CC]
 cases K ty with
 |false=>rfl
 |true=>
  cases op<;>try rfl
  all_goals
   simp only[if_true,Ky];cases KL P K 100 ty _ _ with
   |none=>rfl
   |some r=>exact Hh _ _
def jy(op:BinOp)(ty:TypeId)(x y:Value)(q:Value->Option α):Option α:=
 (λg=>asInt x (λk a=>asInt y (λk' b=>Bool.rec (motive:=λ_=>Option α) g (Yz op k a b q g) (kEq k k')) g) g) (r6 P K op ty x y q)
theorem eI(op:BinOp)(ty:TypeId)(x y:Value)(q:Value->Option α):jy P K op ty x y q=ob (CC P K op ty x y) q:=by
 unfold jy
 rw[jx]
 cases x<;>try rfl
 rename_i k a
 cases y<;>try rfl
 rename_i k' b
 show Bool.rec (motive:=λ_=>Option α) _ (Yz op k a b q _) (kEq k k')=_
 rw[Sp]
 by_cases h:k=k'
 ·subst h;rw[decide_eq_true rfl];refine ZA ?_;simp[CC]
 ·rw[decide_eq_false h]
def Ko(m:Mem)(ty:TypeId)(v:Value)(q:Value->Option α):Option α:=
 IX v λb off=>Option.rec (motive:=λ_=>Option α) none (λagg=>Bool.rec (motive:=λ_=>Option α) (cellsOf (OO m b) λ_ c=>Yx c off q)
  (Option.rec (motive:=λ_=>Option α) none (λn=>cellsOf (OO m b) λ_ c=>jw c off n λl=>q (.agg ⟨l⟩)) (Bh P ty)) agg) (H5 P ty)
theorem HE(x:BI)(q:Bool->List Value->Option α):cellsOf x q=match x with| .cells o c=>q o c|_=>none:=by cases x<;>rfl
theorem J2(m:Mem)(ty:TypeId)(v:Value)(q:Value->Option α):Ko P m ty v q=ob (Dq P m ty v) q:=by
 unfold Ko
 rw[Fp]
 unfold Dq
 cases v<;>try rfl
 rename_i a
 cases a with
 |none=>rfl
 |some a=>
  obtain⟨b,off,sp⟩:=a;cases sp with
  |some _=>rfl
  |none=>
   simp only[J9];cases H5 P ty with
   |none=>rfl
   |some g=>
    cases g with
    |false=>
     simp only[HE];cases m.get b<;>try rfl
     exact P2 _ _ _
    |true=>
     simp only;cases Bh P ty with
     |none=>rfl
     |some n=>
      simp only[HE,Ck];cases m.get b<;>try rfl
      simp only[eG];split<;>rfl
def P3(l:List Value):Bool:=List.rec (motive:=λ_=>Bool) true (λv _ ih=>Bool.rec (motive:=λ_=>Bool) false ih (Yu v)) l
theorem Mw:∀l:List Value,P3 l=l.all one
 | []=>rfl
 |v::l=>by
  have ih:=Mw l;show Bool.rec (motive:=λ_=>Bool) false (P3 l) (Yu v)=_;rw[ih,Ur,List.all_cons];cases one v<;>rfl
def ZB(c:List Value)(off n:Nat):Bool:=Bool.rec (motive:=λ_=>Bool) false (Nat.beq (lenLF c) n) (Nat.beq off 0)
def ZC(m:Mem)(b:Nat)(c:List Value)(off n:Nat)(l:List Value)(q:Mem->Option α):Option α:=
 Bool.rec (motive:=λ_=>Option α) (LW c off l λc'=>J7 m b (.cells true c') q) (Bool.rec (motive:=λ_=>Option α) none (J7 m b (.cells true l) q) (P3 l)) (ZB c off n)
theorem ZD(m:Mem)(b:Nat)(c:List Value)(off n:Nat)(l:List Value)(hl:l.length=n)(q:Mem->Option α):ZC m b c off n l q=LW c off l λc'=>J7 m b (.cells true c') q:=by
 unfold ZC ZB
 rw[lenLF_eq,Mw,Sd,Sd]
 by_cases h1:off=0
 ·by_cases h2:c.length=n
  ·subst h1 h2;rw[decide_eq_true rfl,decide_eq_true rfl,HD];have h3:0+l.length<=c.length:=by omega
   have h4:splice c 0 l=l:=by simp[splice,List.drop_of_length_le (show c.length<=l.length by omega)]
   rw[if_pos h3,h4];cases l.all one<;>simp[J7]
  ·subst h1;rw[decide_eq_true rfl,decide_eq_false h2]
 ·rw[decide_eq_false h1]
def storeF(m:Mem)(ty:TypeId)(v a:Value)(q:Mem->Option α):Option α:=
 IX a λb off=>Option.rec (motive:=λ_=>Option α) none (λn=>Yw v λl=>Bool.rec (motive:=λ_=>Option α) none
  (cellsOf (OO m b) λo c=>Bool.rec (motive:=λ_=>Option α) none (ZC m b c off n l q) o) (Nat.beq (lenLF l) n)) (Bh P ty)
theorem storeF_eq(m:Mem)(ty:TypeId)(v a:Value)(q:Mem->Option α):storeF P m ty v a q=ob (Bx P m ty v a) q:=by
 unfold storeF
 rw[Fp]
 unfold Bx
 cases a<;>try rfl
 rename_i a
 cases a with
 |none=>rfl
 |some a=>
  obtain⟨b,off,sp⟩:=a;cases sp with
  |some _=>rfl
  |none=>
   simp only[Wp,J9,HE,lenLF_eq];cases Bh P ty with
   |none=>rfl
   |some n=>
    simp only[Sd];by_cases h:v.cells.toList.length=n
    ·rw[decide_eq_true h,if_pos h];simp only[Df];cases m.get b<;>try rfl
     rename_i o c;cases o with
     |false=>rfl
     |true=>
      simp only[ZD _ _ _ _ _ _ h,HD,J8];split
      ·split<;>rfl
      ·rfl
    ·rw[decide_eq_false h,if_neg h];rfl
def Sc(ty:TypeId)(v:Value)(q:Value->Option α):Option α:=
 match P.underlying ty with
 |some (.int k)=>asInt v (λk' n=>Bool.rec (motive:=λ_=>Option α) none (q (.int k n)) (kEq k k')) none
 |some .bool=>asBo v (λb=>q (.bool b)) none
 |some (.struct _)=>asAgg v (λcs=>q (.agg cs)) none
 |some (.array _ _)=>asAgg v (λcs=>q (.agg cs)) none
 |some (.slice _)=>asSl v (λa n c=>q (.slice a n c)) none
 |some (.pointer _)=>asPt v (λa=>q (.pointer a)) none
 |_=>q v
theorem Hd(ty:TypeId)(v:Value)(q:Value->Option α):Sc P ty v q=ob (SX P ty (some v)) q:=by
 unfold Sc SX YV
 cases P.underlying ty with
 |none=>rfl
 |some d=>
  cases d<;>try rfl
  all_goals
   simp only;cases v<;>try rfl
   try
    rename_i k k' n;show Bool.rec (motive:=λ_=>Option α) _ _ (kEq k k')=_;simp only[Sp];by_cases h:k=k'
    ·subst h;simp[ob_some]
    ·simp[h,Um]
def tB(s:TypeId)(f:Nat):Option Nat:=
 match P.underlying s with
 |some (.struct fields)=>match fields.toList[f]? with
  |some fd=>match Bh P fd.type with
   |some n=>if n=0 then none else some fd.offset
   |none=>none
  |none=>none
 |_=>none
def Iz(s:TypeId)(f:Nat)(v:Value)(q:Value->Option α):Option α:=
 IX v λb off=>Option.rec (motive:=λ_=>Option α) none (λo=>NX (Nat.add off o) λoff'=>q (.pointer (some ⟨b,off',none⟩))) (tB P s f)
theorem NY(s:TypeId)(f:Nat)(v:Value)(q:Value->Option α):Iz P s f v q=ob (Fm P s f v) q:=by
 unfold Iz
 rw[Fp]
 unfold Fm tB
 cases v<;>try rfl
 rename_i a
 cases a with
 |none=>rfl
 |some a=>
  obtain⟨b,off,sp⟩:=a;cases sp with
  |some _=>rfl
  |none=>
   simp only[HC];cases P.underlying s with
   |none=>rfl
   |some d=>
    cases d<;>try rfl
    rename_i fields;simp only;cases fields.toList[f]? with
    |none=>rfl
    |some fd=>
     simp only;cases Bh P fd.type with
     |none=>rfl
     |some n=>by_cases h:n=0<;>simp only[h,if_true,if_false] <;>rfl
def mO(t:TypeId):Option (Option Nat×Nat):=
 match P.underlying t with
 |some (.array len elem)=>match Bh P elem with|some size=>some (some len,size)|none=>none
 |some (.slice elem)=>match Bh P elem with|some size=>some (none,size)|none=>none
 |_=>none
def jz(b off size len:Nat)(i:Int)(q:Value->Option α):Option α:=
 Int.rec (motive:=λ_=>Option α) (λi=>Bool.rec (motive:=λ_=>Option α) none (NX (Nat.add off (Nat.mul i size)) λoff'=>q (.pointer (some ⟨b,off',none⟩))) (Nat.blt i len)) (λ_=>none) i
theorem Uu(b off size len:Nat)(i:Int)(q:Value->Option α):jz b off size len i q=ob (if 0<=i/\i< (len:Int)then some (.pointer (some ⟨b,off+i.toNat*size,none⟩))else none) q:=by
 cases i with
 |negSucc a=>rw[if_neg (by omega)];rfl
 |ofNat a=>
  show Bool.rec (motive:=λ_=>Option α) none (NX (Nat.add off (Nat.mul a size)) λoff'=>q (.pointer (some ⟨b,off',none⟩))) (Nat.blt a len)=_;by_cases h:a<len
  ·have hb:Nat.blt a len=true:=by simpa[Nat.blt_eq]using h
   rw[hb,if_pos ⟨by simp,by simpa using h⟩];exact HC _ _
  ·have hb:Nat.blt a len=false:=by
    cases hb:Nat.blt a len with
    |false=>rfl
    |true=>exact absurd (by simpa[Nat.blt_eq]using hb) h
   rw[hb,if_neg (by simp only[Int.ofNat_eq_natCast];omega)];rfl
def JA(t:TypeId)(x i:Value)(q:Value->Option α):Option α:=
 asInt i (λ_ i=>Option.rec (motive:=λ_=>Option α) none (λp=>Prod.rec (motive:=λ_=>Option α) (λa size=>
  Option.rec (motive:=λ_=>Option α) (OB x λb off len=>jz b off size len i q) (λlen=>IX x λb off=>jz b off size len i q) a) p) (mO P t)) none
theorem NZ(t:TypeId)(x i:Value)(q:Value->Option α):JA P t x i q=ob (EI P t x i) q:=by
 unfold JA EI mO
 cases i<;>try rfl
 rename_i ik i
 show Option.rec (motive:=λ_=>Option α) none _ _=_
 cases P.underlying t with
 |none=>rfl
 |some d=>
  cases d<;>try rfl
  ·rename_i elem;simp only;cases Bh P elem with
   |none=>
    simp only;cases x<;>try rfl
    rename_i a _ _;cases a<;>rfl
   |some size=>
    simp only[Yv];cases x<;>try rfl
    rename_i a n c;cases a with
    |none=>rfl
    |some a=>exact Uu _ _ _ _ _ _
  ·rename_i len elem;simp only;cases Bh P elem with
   |none=>
    simp only;cases x<;>try rfl
    rename_i a;cases a with
    |none=>rfl
    |some a=>obtain⟨b,off,sp⟩:=a;cases sp<;>rfl
   |some size=>
    simp only[Fp];cases x<;>try rfl
    rename_i a;cases a with
    |none=>rfl
    |some a=>
     obtain⟨b,off,sp⟩:=a;cases sp with
     |some _=>rfl
     |none=>exact Uu _ _ _ _ _ _
def tC(t:TypeId)(f:Nat):Option (TypeId×Nat):=
 match P.underlying t with
 |some (.struct fields)=>match fields.toList[f]? with
  |some fd=>some (fd.type,fd.offset)
  |none=>none
 |_=>none
def ZE(l:List Value)(q:List Value->Option α):Option α:=q l
theorem Ja(l:List Value)(q:List Value->Option α):ZE l q=q l:=rfl
def ZF(t:TypeId)(cs:List Value)(off:Nat)(q:Value->Option α):Option α:=
 Option.rec (motive:=λ_=>Option α) none (λagg=>Bool.rec (motive:=λ_=>Option α) (Yx cs off q) (Option.rec (motive:=λ_=>Option α) none (λn=>ZE (subL cs off n) λl=>q (.agg ⟨l⟩)) (Bh P t)) agg) (H5 P t)
theorem ZG(t:TypeId)(cs:List Value)(off:Nat)(q:Value->Option α):ZF P t cs off q=ob (part P t cs off) q:=by
 unfold ZF part
 cases H5 P t with
 |none=>rfl
 |some g=>
  cases g with
  |false=>exact P2 _ _ _
  |true=>
   simp only;cases Bh P t with
   |none=>rfl
   |some n=>simp only[subL_eq];exact Ja _ _
def Sq(t:TypeId)(f:Nat)(v:Value)(q:Value->Option α):Option α:=
 asAgg v (λcs=>Option.rec (motive:=λ_=>Option α) none (λp=>Prod.rec (motive:=λ_=>Option α) (λu o=>ZF P u cs.toList o q) p) (tC P t f)) none
theorem Wq(t:TypeId)(f:Nat)(v:Value)(q:Value->Option α):Sq P t f v q=ob (Ly P t f v) q:=by
 unfold Sq Ly tC
 cases v<;>try rfl
 rename_i cs
 show Option.rec (motive:=λ_=>Option α) none _ _=_
 cases P.underlying t with
 |none=>rfl
 |some d=>
  cases d<;>try rfl
  rename_i fields;simp only;cases fields.toList[f]? with
  |none=>rfl
  |some fd=>exact ZG _ _ _ _ _
def gI(et:TypeId)(ok:Bool)(q:Value->Option α):Option α:=
 Option.rec (motive:=λ_=>Option α) none (λz=>Bool.rec (motive:=λ_=>Option α) none (q (cond ok (.tuple #[z, .bool false]) z)) (EH z)) (zeroOf P et)
def RG(kt et:TypeId)(k:Value)(ok:Bool)(es:List MapEntry)(q:Value->Option α):Option α:=
 Bool.rec (motive:=λ_=>Option α) none (Option.rec (motive:=λ_=>Option α) none (λr=>Option.rec (motive:=λ_=>Option α) (gI P et ok q) (λp=>Prod.rec (motive:=λ_=>Option α) (λ_ v=>Sc P et v λv=>q (cond ok (.tuple #[v, .bool true]) v)) p) r) (findD P K kt k es 0)) (E3 P 100 kt k)
def P4(m:Mem)(t:TypeId)(x k:Value)(ok:Bool)(q:Value->Option α):Option α:=
 match P.underlying t with
 |some (.map kt et)=>match FG m x with
  |some es=>RG P K kt et k ok es q
  |none=>none
 |_=>none
theorem Sr(m:Mem)(t:TypeId)(x k:Value)(ok:Bool)(q:Value->Option α):P4 P K m t x k ok q=ob (Hw P K m t x k ok) q:=by
 unfold P4 Hw
 cases P.underlying t with
 |none=>rfl
 |some d=>
  cases d<;>try rfl
  rename_i kt et;simp only;cases FG m x with
  |none=>rfl
  |some es=>
   simp only[RG];cases E3 P 100 kt k with
   |false=>rfl
   |true=>
    simp only[if_true];cases findD P K kt k es 0 with
    |none=>rfl
    |some r=>
     cases r with
     |some p=>
      obtain⟨i,v⟩:=p;simp only[Hd,SX];cases YV P et v<;>rfl
     |none=>
      simp only[gI];cases zeroOf P et with
      |none=>rfl
      |some z=>
       simp only;cases EH z<;>rfl
def gJ(kt:TypeId)(m:Mem)(r:Nat)(k v:Value)(es:List MapEntry)(clock:Nat)(q:Mem->Option α):Option α:=
 Bool.rec (motive:=λ_=>Option α) none (Option.rec (motive:=λ_=>Option α) none (λx=>Option.rec (motive:=λ_=>Option α) (J7 m r (.map true (es++ [{key:=k,val:=v,born:=clock}]) (clock+1)) q)
  (λp=>Prod.rec (motive:=λ_=>Option α) (λi _=>Option.rec (motive:=λ_=>Option α) none (λe=>Bool.rec (motive:=λ_=>Option α) none (J7 m r (.map true (Lz i k v es) clock) q) (Instr.sameBits 10000 e.key k)) es[i]?) p) x) (findD P K kt k es 0)) (E3 P 100 kt k)
def HF(m:Mem)(t:TypeId)(x k v:Value)(q:Mem->Option α):Option α:=
 match P.underlying t with
 |some (.map kt _)=>match x with
  | .map (some r)=>match OO m r with
   | .map true es clock=>gJ P K kt m r k v es clock q
   |_=>none
  |_=>none
 |_=>none
theorem I1(m:Mem)(t:TypeId)(x k v:Value)(q:Mem->Option α):HF P K m t x k v q=ob (C2 P K m t x k v) q:=by
 unfold HF C2
 cases P.underlying t with
 |none=>rfl
 |some d=>
  cases d<;>try rfl
  rename_i kt et;simp only;cases x<;>try rfl
  rename_i r;cases r with
  |none=>rfl
  |some r=>
   simp only[J9];cases m.get r with
   |none=>rfl
   |cells=>rfl
   |siter=>rfl
   |map o es clock=>
    cases o with
    |false=>rfl
    |true=>
     simp only[gJ,J8];cases E3 P 100 kt k with
     |false=>rfl
     |true=>
      simp only[if_true];cases findD P K kt k es 0 with
      |none=>rfl
      |some x=>
       cases x with
       |none=>rfl
       |some p=>
        obtain⟨i,u⟩:=p;simp only;cases es[i]? with
        |none=>rfl
        |some e=>
         simp only;cases Instr.sameBits 10000 e.key k<;>rfl
end
end
end Go.DI.Y
namespace Go.DI
def maskAt(M:Tr Nat)(j:Nat):Nat:=match Tr.get M j j with|some x=>x|none=>0
def OL(acc:Tr Nat):List Edge->Nat
 | []=>0
 |e::l=>cond (Region.binds .any e) (2 ^ e.on|||(maskAt acc e.on|||OL acc l)) (OL acc l)
def dz:List Oper->Nat->Tr Nat->Tr Nat
 | [],_,acc=>acc
 |o::l,i,acc=>dz l (i+1) (Tr.put acc 8 i i (OL acc o.after.toList))
theorem RA{acc:Tr Nat}{L:List Nat}(h:∀j,maskAt acc j=L.getD j 0):∀es:List Edge,OL acc es=HL L es
 | []=>rfl
 |e::es=>by simp only[OL,HL,h,RA h es]
theorem Ul:∀(l:List Oper) (acc:Tr Nat) (L:List Nat),(∀j,maskAt acc j=L.getD j 0)->∀j,maskAt (dz l L.length acc) j=(Ci l L).getD j 0
 | [],_,_,h=>h
 |o::l,acc,L,h=>by
  intro j
  have:=Ul l (Tr.put acc 8 L.length L.length (OL acc o.after.toList)) (L++ [HL L o.after.toList]) (by
   intro j;simp only[maskAt,Tr.get_put];by_cases hj:j=L.length
   ·subst hj;simp[RA h]
   ·have h2:=h j;simp only[maskAt]at h2;simp only[hj,if_false,h2,List.getD_eq_getElem?_getD];by_cases h3:j<L.length
    ·rw[List.getElem?_append_left h3]
    ·rw[List.getElem?_eq_none (by omega),List.getElem?_eq_none (by simp;omega)]) j
  simpa[dz,Ci]using this
def Wo(ops:List Oper):Tr Nat:=dz ops 0 .nil
theorem LU(ops:List Oper)(j:Nat):maskAt (Wo ops) j=(Ci ops []).getD j 0:=Ul ops .nil [] (λj=>by simp[maskAt,Tr.get_nil]) j
def I0(T:Tr (List Nat))(u:Nat):List Nat:=match Tr.get T u u with|some x=>x|none=> []
def OM:List Oper->Nat->Tr (List Nat)->Tr (List Nat)
 | [],_,T=>T
 |o::l,i,T=>match o.dst with
  |some d=>OM l (i+1) (Tr.put T 8 d d (i::I0 T d))
  |none=>OM l (i+1) T
theorem KX(u k:Nat):∀(l:List Oper) (i:Nat) (T:Tr (List Nat)),k∈I0 (OM l i T) u↔k∈I0 T u\/(∃a o,k=i+a/\l[a]?=some o/\o.dst=some u)
 | [],i,T=>by simp[OM]
 |o::l,i,T=>by
  have step:(∃a o',k=i+a/\(o::l)[a]?=some o'/\o'.dst=some u)↔ (k=i/\o.dst=some u)\/(∃a o',k=i+1+a/\l[a]?=some o'/\o'.dst=some u):=by
   constructor
   ·rintro⟨a,o',h1,h2,h3⟩;cases a with
    |zero=>simp at h2;subst h2;exact .inl ⟨by omega,h3⟩
    |succ a=>exact .inr ⟨a,o',by omega,by simpa using h2,h3⟩
   ·rintro(⟨h1,h2⟩|⟨a,o',h1,h2,h3⟩)
    ·exact⟨0,o,by omega,by simp,h2⟩
    ·exact⟨a+1,o',by omega,by simpa using h2,h3⟩
  rw[step];simp only[OM];cases hd:o.dst with
  |none=>
   simp only;rw[KX u k l (i+1) T];simp
  |some d=>
   simp only;rw[KX u k l (i+1)]
   have:k∈I0 (Tr.put T 8 d d (i::I0 T d)) u↔k∈I0 T u\/(k=i/\d=u):=by
    simp only[I0,Tr.get_put];by_cases h:u=d
    ·subst h;simp[or_comm]
    ·simp[h,Ne.symm h]
   rw[this];simp only[Option.some.injEq];exact or_assoc
def Yr(ops:List Oper):Tr (List Nat):=OM ops 0 .nil
theorem ON(ops:List Oper)(u k:Nat):k∈I0 (Yr ops) u↔ ∃o,ops[k]?=some o/\o.dst=some u:=by
 have:=KX u k ops 0 .nil
 simp only[Yr]
 rw[this]
 constructor
 ·rintro(h|⟨a,o,h1,h2,h3⟩)
  ·simp[I0,Tr.get_nil]at h
  ·exact⟨o,by simpa[h1]using h2,h3⟩
 ·rintro⟨o,h2,h3⟩;exact .inr ⟨k,o,by omega,h2,h3⟩
def eA(M:Tr Nat):List Oper->Nat->List (Nat×Nat)
 | [],_=> []
 |o::l,i=>cond (Nat.beq (B3 o.op) 2) ((i,maskAt M i)::eA M l (i+1)) (eA M l (i+1))
theorem PZ(M:Tr Nat)(x:Nat×Nat):∀(l:List Oper) (i:Nat),x∈eA M l i↔ ∃a o,x.1=i+a/\l[a]?=some o/\B3 o.op=2/\x.2=maskAt M x.1
 | [],i=>by simp[eA]
 |o::l,i=>by
  have ih:=PZ M x l (i+1)
  have step:(∃a o',x.1=i+a/\(o::l)[a]?=some o'/\B3 o'.op=2/\x.2=maskAt M x.1)↔ (x.1=i/\B3 o.op=2/\x.2=maskAt M x.1)\/(∃a o',x.1=i+1+a/\l[a]?=some o'/\B3 o'.op=2/\x.2=maskAt M x.1):=by
   constructor
   ·rintro⟨a,o',h1,h2,h3⟩;cases a with
    |zero=>simp at h2;subst h2;exact .inl ⟨by omega,h3⟩
    |succ a=>exact .inr ⟨a,o',by omega,by simpa using h2,h3⟩
   ·rintro(⟨h1,h2⟩|⟨a,o',h1,h2,h3⟩)
    ·exact⟨0,o,by omega,by simp,h2⟩
    ·exact⟨a+1,o',by omega,by simpa using h2,h3⟩
  rw[step,←ih];simp only[eA];by_cases hk:B3 o.op=2
  ·have:Nat.beq (B3 o.op) 2=true:=by rw[hk];rfl
   rw[this];simp only[cond_true,List.mem_cons,hk,true_and];constructor
   ·rintro(h|h)
    ·subst h;exact .inl ⟨rfl,rfl⟩
    ·exact .inr h
   ·rintro(⟨h1,h2⟩|h)
    ·left;ext
     ·exact h1
     ·rw[h2,h1]
    ·exact .inr h
  ·have:Nat.beq (B3 o.op) 2=false:=Iw hk;rw[this];simp[hk]
theorem Ix(M:Tr Nat):∀(l:List Oper) (i:Nat),(eA M l i).Pairwise λa b=>a.1<b.1
 | [],i=>by simp[eA]
 |o::l,i=>by
  have ih:=Ix M l (i+1);simp only[eA];cases Nat.beq (B3 o.op) 2 with
  |false=>exact ih
  |true=>
   simp only[cond_true,List.pairwise_cons];refine⟨λx hx=>?_,ih⟩;obtain⟨a,o',h1,_⟩:=(PZ M x l (i+1)).1 hx;omega
def Po(ops:List Oper):List (Nat×Nat):=eA (Wo ops) ops 0
theorem F8(ops:List Oper)(x:Nat×Nat):x∈Po ops↔BK ops x.1=2/\x.1<ops.length/\x.2=(Ci ops []).getD x.1 0:=by
 rw[Po,PZ]
 simp only[Nat.zero_add,LU,BK]
 constructor
 ·rintro⟨a,o,h1,h2,h3,h4⟩;subst h1;rw[h2];exact⟨h3,(List.getElem?_eq_some_iff.1 h2).1,h4⟩
 ·rintro⟨h1,h2,h3⟩;refine⟨x.1,ops[x.1],rfl,List.getElem?_eq_getElem h2,?_,h3⟩;rw[List.getElem?_eq_getElem h2]at h1;exact h1
def Ys:List (Nat×Nat)->Bool
 | []=>true
 |x::l=>l.all (λb=>b.2.testBit x.1) && Ys l
theorem RB:∀{l:List (Nat×Nat)},l.Pairwise (λa b=>a.1<b.1)->(Ys l=true↔ ∀a∈l,∀b∈l,a.1<b.1->b.2.testBit a.1=true)
 | [],_=>by simp[Ys]
 |x::l,hs=>by
  rw[List.pairwise_cons]at hs;have ih:=RB hs.2;simp only[Ys,Bool.and_eq_true,List.all_eq_true,ih];constructor
  ·rintro⟨h1,h2⟩ a ha b hb hab;rcases List.mem_cons.1 ha with e|ha'
   ·subst e;rcases List.mem_cons.1 hb with e|hb'
    ·subst e;omega
    ·exact h1 b hb'
   ·rcases List.mem_cons.1 hb with e|hb'
    ·subst e;have:=hs.1 a ha';omega
    ·exact h2 a ha' b hb' hab
  ·intro h;exact⟨λb hb=>h x (List.mem_cons_self ..) b (List.mem_cons_of_mem _ hb) (hs.1 b hb),λa ha b hb=>h a (List.mem_cons_of_mem _ ha) b (List.mem_cons_of_mem _ hb)⟩
def eB(M:Tr Nat)(D:Tr (List Nat))(j Tj:Nat)(us:List Tmp):Bool:=
 us.all λu=>(I0 D u).all λi=>Nat.beq i j||cond (Nat.blt i j) (Tj.testBit i) ((maskAt M i).testBit j)
def Mn(ops:List Oper)(M:Tr Nat)(D:Tr (List Nat)):List Oper->Nat->Bool
 | [],_=>true
 |o::l,j=>eB M D j (maskAt M j) (Gw ops o++o.dst.toList) && Mn ops M D l (j+1)
theorem Mo(ops:List Oper)(M:Tr Nat)(D:Tr (List Nat)):∀(l:List Oper) (j:Nat),Mn ops M D l j=true↔ ∀a o,l[a]?=some o->eB M D (j+a) (maskAt M (j+a)) (Gw ops o++o.dst.toList)=true
 | [],j=>by simp[Mn]
 |o::l,j=>by
  have ih:=Mo ops M D l (j+1);simp only[Mn,Bool.and_eq_true,ih];constructor
  ·rintro⟨h1,h2⟩ a o' h;cases a with
   |zero=>simp at h;subst h;exact h1
   |succ a=>
    have:=h2 a o' (by simpa using h);have e:j+1+a=j+(a+1):=by omega
    rwa [e]at this
  ·intro h;refine⟨h 0 o (by simp),λa o' ho=>?_⟩;have:=h (a+1) o' (by simpa using ho);have e:j+1+a=j+(a+1):=by omega
   rwa [e]
def Qc(ops:List Oper):Bool:=Il ops 0 && (Mn ops (Wo ops) (Yr ops) ops 0 && Ys (Po ops))
theorem Qd(ops:List Oper):Qc ops=Kj ops (Ci ops []):=by
 rw[Bool.eq_iff_iff]
 simp only[Qc,Kj,Bool.and_eq_true,Mo,RB (Ix _ _ _),Po,List.all_eq_true,List.mem_range]
 have hv:=F8 ops
 simp only[Po]at hv
 refine and_congr_right λ_=>?_
 constructor
 ·rintro⟨h1,h2⟩ i hi j hj;simp only[MB,List.getElem?_eq_getElem hi,List.getElem?_eq_getElem hj,Bool.and_eq_true];refine⟨?_,?_⟩
  ·cases hd:ops[i].dst with
   |none=>rfl
   |some d=>
    simp only[Bool.or_eq_true];by_cases hij:i=j
    ·subst hij;exact .inl (.inl (by simp))
    ·by_cases hu:((Gw ops ops[j]).contains d||ops[j].dst==some d)=true
     ·right
      have hmem:d∈Gw ops ops[j]++ops[j].dst.toList:=by
       simp only[Bool.or_eq_true,List.contains_iff_mem,beq_iff_eq]at hu;simp only[List.mem_append,Option.mem_toList];rcases hu with h|h
       ·exact .inl h
       ·exact .inr h
      have:=h1 j ops[j] (List.getElem?_eq_getElem hj);simp only[eB,List.all_eq_true,Nat.zero_add]at this;have:=this d hmem i ((ON ops d i).2 ⟨_,List.getElem?_eq_getElem hi,hd⟩);simp only[LU,Bool.or_eq_true]at this;rcases this with h|h
      ·exact absurd (Nat.eq_of_beq_eq_true h) hij
      ·exact h
     ·exact .inl (.inr (by simpa using hu))
  ·simp only[Bool.or_eq_true];by_cases hc:B3 ops[i].op=2/\B3 ops[j].op=2/\i<j
   ·right;have:=h2 (i,_) ((hv (i,(Ci ops []).getD i 0)).2 ⟨by simp only[BK,List.getElem?_eq_getElem hi];exact hc.1,hi,rfl⟩) (j,_) ((hv (j,(Ci ops []).getD j 0)).2 ⟨by simp only[BK,List.getElem?_eq_getElem hj];exact hc.2.1,hj,rfl⟩) hc.2.2;exact this
   ·left;simp only[Bool.not_eq_true'];cases hb:(Nat.beq (B3 ops[i].op) 2 && Nat.beq (B3 ops[j].op) 2 && Nat.blt i j)with
    |false=>rfl
    |true=>
     simp only[Bool.and_eq_true]at hb;exact absurd ⟨Nat.eq_of_beq_eq_true hb.1.1,Nat.eq_of_beq_eq_true hb.1.2,by simpa[Nat.blt_eq]using hb.2⟩ hc
 ·intro h;refine⟨λj y hy=>?_,?_⟩
  ·obtain⟨hj,rfl⟩:=List.getElem?_eq_some_iff.1 hy;simp only[eB,List.all_eq_true,Nat.zero_add];intro u hu i hi;obtain⟨x,hx,hd⟩:=(ON ops u i).1 hi;obtain⟨hi',rfl⟩:=List.getElem?_eq_some_iff.1 hx;have:=h i hi' j hj;simp only[MB,List.getElem?_eq_getElem hi',List.getElem?_eq_getElem hj,hd,Bool.and_eq_true]at this;have h1:=this.1;simp only[Bool.or_eq_true]at h1;simp only[LU,Bool.or_eq_true];rcases h1 with(h1|h1)|h1
   ·exact .inl h1
   ·exfalso;simp only[List.mem_append,Option.mem_toList]at hu
    have:((Gw ops ops[j]).contains u||ops[j].dst==some u)=true:=by
     simp only[Bool.or_eq_true,List.contains_iff_mem,beq_iff_eq];rcases hu with g|g
     ·exact .inl g
     ·exact .inr g
    rw[this]at h1;simp at h1
   ·exact .inr h1
  ·intro a ha b hb hab;obtain⟨a1,a2,a3⟩:=(hv a).1 ha;obtain⟨b1,b2,b3⟩:=(hv b).1 hb;have:=h a.1 a2 b.1 b2;simp only[MB,List.getElem?_eq_getElem a2,List.getElem?_eq_getElem b2,Bool.and_eq_true]at this;have h2:=this.2;simp only[BK,List.getElem?_eq_getElem a2]at a1;simp only[BK,List.getElem?_eq_getElem b2]at b1;rw[a1,b1]at h2;have hlt:Nat.blt a.1 b.1=true:=by simpa[Nat.blt_eq]using hab
   rw[hlt]at h2;simp only[FU]at h2;rw[b3];simpa using h2
def Fu(p:Nat×Nat->Bool)(hs:List (Nat×Nat))(n:Nat):Nat:=match hs.find? p with|some h=>h.1|none=>n
theorem Mp{p:Nat×Nat->Bool}{hs:List (Nat×Nat)}{n s:Nat}(hp:hs.Pairwise λa b=>a.1<b.1)(hn:s<=n):s<=Fu p hs n↔ ∀h∈hs,h.1<s->p h=false:=by
 unfold Fu
 cases hf:hs.find? p with
 |none=>
  simp only[hn,true_iff];intro h hh _;have:=List.find?_eq_none.1 hf h hh;simpa using this
 |some x=>
  obtain⟨hx,l1,l2,rfl,h1⟩:=List.find?_eq_some_iff_append.1 hf;rw[List.pairwise_append]at hp;simp only;constructor
  ·intro hs' h hh hlt;rcases List.mem_append.1 hh with g|g
   ·have:=h1 h g;simpa using this
   ·rcases List.mem_cons.1 g with rfl|g
    ·omega
    ·have:=(List.pairwise_cons.1 hp.2.1).1 h g;omega
  ·intro h;by_cases hlt:x.1<s
   ·have:=h x (by simp) hlt;rw[this]at hx;simp at hx
   ·omega
def Iy(hs:List (Nat×Nat))(n i Ti:Nat):List (Nat×Nat):=
 (λf g=>(hs.map (·.1)++ [n]).filterMap λs=>cond (Nat.ble s f && (Nat.beq s n|| !(Ti.testBit s)) && !(Nat.ble i s && Nat.ble s g)) (some (i,s)) none)
  (Fu (λh=>h.2.testBit i) hs n) (Fu (λh=>Nat.ble i h.1) hs n)
def KY(M:Tr Nat)(hs:List (Nat×Nat))(n:Nat):List Oper->Nat->List (Nat×Nat)
 | [],_=> []
 |o::l,i=>cond (Nat.beq (B3 o.op) 0 && EJ o.op) (Iy hs n i (maskAt M i)++KY M hs n l (i+1)) (KY M hs n l (i+1))
def KP(ops:List Oper):List (Nat×Nat):=KY (Wo ops) (Po ops) ops.length ops 0
def KZ(hs:List (Nat×Nat)):List Oper->Nat->List (Nat×Nat)
 | [],_=> []
 |o::l,i=>cond (Nat.beq (B3 o.op) 1) ((hs.filterMap λh=>cond (Nat.blt i h.1 && !(h.2.testBit i)) (some (i,h.1)) none)++KZ hs l (i+1)) (KZ hs l (i+1))
def Ip(ops:List Oper):List (Nat×Nat):=KZ (Po ops) ops 0
theorem Mq(M:Tr Nat)(hs:List (Nat×Nat))(n:Nat)(x:Nat×Nat):∀(l:List Oper) (i:Nat),x∈KY M hs n l i↔ ∃a o,l[a]?=some o/\B3 o.op=0/\EJ o.op=true/\x∈Iy hs n (i+a) (maskAt M (i+a))
 | [],i=>by simp[KY]
 |o::l,i=>by
  have ih:=Mq M hs n x l (i+1)
  have step:(∃a o',(o::l)[a]?=some o'/\B3 o'.op=0/\EJ o'.op=true/\x∈Iy hs n (i+a) (maskAt M (i+a)))↔ (B3 o.op=0/\EJ o.op=true/\x∈Iy hs n i (maskAt M i))\/(∃a o',l[a]?=some o'/\B3 o'.op=0/\EJ o'.op=true/\x∈Iy hs n (i+1+a) (maskAt M (i+1+a))):=by
   constructor
   ·rintro⟨a,o',h2,h3⟩;cases a with
    |zero=>simp at h2;subst h2;exact .inl h3
    |succ a=>
     have e:i+(a+1)=i+1+a:=by omega
     rw[e]at h3;exact .inr ⟨a,o',by simpa using h2,h3⟩
   ·rintro(h|⟨a,o',h2,h3⟩)
    ·exact⟨0,o,by simp,h⟩
    ·have e:i+1+a=i+(a+1):=by omega
     rw[e]at h3;exact⟨a+1,o',by simpa using h2,h3⟩
  rw[step,←ih];simp only[KY];by_cases hk:B3 o.op=0/\EJ o.op=true
  ·have:(Nat.beq (B3 o.op) 0 && EJ o.op)=true:=by rw[hk.1,hk.2];rfl
   rw[this];simp[hk.1,hk.2]
  ·have:(Nat.beq (B3 o.op) 0 && EJ o.op)=false:=by
    cases hb:(Nat.beq (B3 o.op) 0 && EJ o.op)with
    |false=>rfl
    |true=>
     simp only[Bool.and_eq_true]at hb;exact absurd ⟨Nat.eq_of_beq_eq_true hb.1,hb.2⟩ hk
   rw[this];simp only[cond_false];constructor
   ·exact .inr
   ·rintro(⟨h1,h2,_⟩|h)
    ·exact absurd ⟨h1,h2⟩ hk
    ·exact h
theorem Mr(hs:List (Nat×Nat))(x:Nat×Nat):∀(l:List Oper) (i:Nat),x∈KZ hs l i↔ ∃a o,l[a]?=some o/\B3 o.op=1/\x.1=i+a/\∃h∈hs,i+a<h.1/\h.2.testBit (i+a)=false/\x.2=h.1
 | [],i=>by simp[KZ]
 |o::l,i=>by
  have ih:=Mr hs x l (i+1)
  have step:(∃a o',(o::l)[a]?=some o'/\B3 o'.op=1/\x.1=i+a/\∃h∈hs,i+a<h.1/\h.2.testBit (i+a)=false/\x.2=h.1)↔ (B3 o.op=1/\x.1=i/\∃h∈hs,i<h.1/\h.2.testBit i=false/\x.2=h.1)\/(∃a o',l[a]?=some o'/\B3 o'.op=1/\x.1=i+1+a/\∃h∈hs,i+1+a<h.1/\h.2.testBit (i+1+a)=false/\x.2=h.1):=by
   constructor
   ·rintro⟨a,o',h2,h3⟩;cases a with
    |zero=>simp at h2;subst h2;exact .inl h3
    |succ a=>
     have e:i+(a+1)=i+1+a:=by omega
     rw[e]at h3;exact .inr ⟨a,o',by simpa using h2,h3⟩
   ·rintro(h|⟨a,o',h2,h3⟩)
    ·exact⟨0,o,by simp,h⟩
    ·have e:i+1+a=i+(a+1):=by omega
     rw[e]at h3;exact⟨a+1,o',by simpa using h2,h3⟩
  rw[step,←ih];simp only[KZ];by_cases hk:B3 o.op=1
  ·have:Nat.beq (B3 o.op) 1=true:=by rw[hk];rfl
   rw[this];simp only[cond_true,List.mem_append,List.mem_filterMap,hk,true_and];refine or_congr_left ?_;constructor
   ·rintro⟨h,hh,hc⟩;cases hb:(Nat.blt i h.1 && !(h.2.testBit i))with
    |false=>rw[hb]at hc;simp at hc
    |true=>
     rw[hb]at hc;simp only[cond_true,Option.some.injEq]at hc;subst hc;simp only[Bool.and_eq_true,Bool.not_eq_true']at hb;exact⟨rfl,h,hh,by simpa[Nat.blt_eq]using hb.1,hb.2,rfl⟩
   ·rintro⟨h1,h,hh,h2,h3,h4⟩;refine⟨h,hh,?_⟩;have:Nat.blt i h.1=true:=by simpa[Nat.blt_eq]using h2
    rw[this,h3];simp only[Bool.not_false,Bool.and_true,cond_true,Option.some.injEq];ext
    ·exact h1.symm
    ·exact h4.symm
  ·have:Nat.beq (B3 o.op) 1=false:=Iw hk;rw[this];simp[hk]
theorem MR(ops:List Oper)(x:Nat×Nat):x∈Ip ops↔x∈MD ops (Ci ops []):=by
 rw[Ip,Mr]
 simp only[MD,List.mem_flatMap,List.mem_range,Nat.zero_add]
 constructor
 ·rintro⟨i,o,ho,hk,h1,h,hh,h2,h3,h4⟩;obtain⟨hi,rfl⟩:=List.getElem?_eq_some_iff.1 ho;obtain⟨g1,g2,g3⟩:=(F8 ops h).1 hh;refine⟨i,hi,?_⟩;have e1:BK ops i=1:=by simp only[BK,ho];exact hk
  rw[e1];simp only[show Nat.beq 1 1=true from rfl,cond_true,List.mem_filterMap,List.mem_range];refine⟨h.1,g2,?_⟩;have e2:Nat.blt i h.1=true:=by simpa[Nat.blt_eq]using h2
  have e3:FU (Ci ops []) i h.1=false:=by simp only[FU,←g3];exact h3
  rw[e2,g1,e3];simp only[show Nat.beq 2 2=true from rfl,Bool.and_true,Bool.not_false,cond_true,Option.some.injEq];ext
  ·exact h1.symm
  ·exact h4.symm
 ·rintro⟨i,hi,hx⟩;cases hk:Nat.beq (BK ops i) 1 with
  |false=>rw[hk]at hx;simp at hx
  |true=>
   rw[hk]at hx;simp only[cond_true,List.mem_filterMap,List.mem_range]at hx;obtain⟨h,hh,hc⟩:=hx;cases hb:(Nat.blt i h && Nat.beq (BK ops h) 2 && !(FU (Ci ops []) i h))with
   |false=>rw[hb]at hc;simp at hc
   |true=>
    rw[hb]at hc;simp only[cond_true,Option.some.injEq]at hc;subst hc;simp only[Bool.and_eq_true,Bool.not_eq_true']at hb;have hk':=Nat.eq_of_beq_eq_true hk;simp only[BK,List.getElem?_eq_getElem hi]at hk';refine⟨i,ops[i],List.getElem?_eq_getElem hi,hk',rfl,(h,(Ci ops []).getD h 0),(F8 ops _).2 ⟨Nat.eq_of_beq_eq_true hb.1.2,hh,rfl⟩,by simpa[Nat.blt_eq]using hb.1.1,?_,rfl⟩;have:=hb.2;simpa[FU]using this
theorem MQ(ops:List Oper)(x:Nat×Nat):x∈KP ops↔x∈MC ops (Ci ops []):=by
 rw[KP,Mq]
 have hsort:(Po ops).Pairwise (λa b=>a.1<b.1):=Ix _ _ _
 have hmem:∀s,s∈(Po ops).map (·.1)↔BK ops s=2/\s<ops.length:=by
  intro s;simp only[List.mem_map];constructor
  ·rintro⟨h,hh,rfl⟩;obtain⟨g1,g2,g3⟩:=(F8 ops h).1 hh;exact⟨g1,g2⟩
  ·rintro⟨g1,g2⟩;exact⟨(s,_),(F8 ops (s,(Ci ops []).getD s 0)).2 ⟨g1,g2,rfl⟩,rfl⟩
 have hfe:∀i s,s<=ops.length->(s<=Fu (λh=>h.2.testBit i) (Po ops) ops.length↔ ((List.range s).all λh=> !(Nat.beq (BK ops h) 2)|| !(FU (Ci ops []) i h))=true):=by
  intro i s hs;rw[Mp hsort hs];simp only[List.all_eq_true,List.mem_range,Bool.or_eq_true,Bool.not_eq_true'];constructor
  ·intro h q hq;by_cases hk:BK ops q=2
   ·right;have:=h (q,_) ((F8 ops (q,(Ci ops []).getD q 0)).2 ⟨hk,by omega,rfl⟩) hq;exact this
   ·exact .inl (Iw hk)
  ·intro h q hq hlt;obtain⟨g1,g2,g3⟩:=(F8 ops q).1 hq;rcases h q.1 hlt with g|g
   ·rw[g1]at g;simp at g
   ·rw[g3];exact g
 have hne:∀i s,s<=ops.length->(s<=Fu (λh=>Nat.ble i h.1) (Po ops) ops.length↔ ((List.range s).all λh=> !(Nat.beq (BK ops h) 2)||Nat.blt h i)=true):=by
  intro i s hs;rw[Mp hsort hs];simp only[List.all_eq_true,List.mem_range,Bool.or_eq_true,Bool.not_eq_true'];constructor
  ·intro h q hq;by_cases hk:BK ops q=2
   ·right;have:=h (q,_) ((F8 ops (q,(Ci ops []).getD q 0)).2 ⟨hk,by omega,rfl⟩) hq;simp only at this
    have h2:¬(i<=q):=λhle=>by
     have hb:Nat.ble i q=true:=by rw[Nat.ble_eq];exact hle
     rw[hb]at this;simp at this
    simp only[Nat.blt_eq];omega
   ·exact .inl (Iw hk)
  ·intro h q hq hlt;obtain⟨g1,g2,g3⟩:=(F8 ops q).1 hq;rcases h q.1 hlt with g|g
   ·rw[g1]at g;simp at g
   ·have h3:q.1<i:=by simpa[Nat.blt_eq]using g
    cases hb:Nat.ble i q.1 with
    |false=>rfl
    |true=>have:=Nat.le_of_ble_eq_true hb;omega
 have core:∀i s,s<=ops.length->(((Nat.ble s (Fu (λh=>h.2.testBit i) (Po ops) ops.length) && (Nat.beq s ops.length|| !((maskAt (Wo ops) i).testBit s)) && !(Nat.ble i s && Nat.ble s (Fu (λh=>Nat.ble i h.1) (Po ops) ops.length)))=true/\(s∈(Po ops).map (·.1)\/s=ops.length))↔ ((Nt ops (Ci ops []) i s && !(Nu ops i s))=true)):=by
  intro i s hs;have e1:=hfe i s hs;have e2:=hne i s hs;simp only[Bool.and_eq_true,Nat.ble_eq,e1,Bool.not_eq_true',Bool.or_eq_true,Nt,Nu,LU,FU]at e1 e2 ⊢
  have e3:(Nat.ble i s && Nat.ble s (Fu (λh=>Nat.ble i h.1) (Po ops) ops.length))=(Nat.ble i s && (List.range s).all λh=> !(Nat.beq (BK ops h) 2)||Nat.blt h i):=by
   congr 1;rw[Bool.eq_iff_iff,Nat.ble_eq];exact e2
  rw[e3,hmem];constructor
  ·rintro⟨⟨⟨h1,h2⟩,h3⟩,h4⟩;refine⟨⟨?_,h1⟩,h3⟩;rcases h4 with h4|h4
   ·rcases h2 with h2|h2
    ·exact .inl h2
    ·exact .inr ⟨by rw[h4.1];rfl,h2⟩
   ·left;rw[h4];exact Nat.beq_refl _
  ·rintro⟨⟨h0,h1⟩,h3⟩;rcases h0 with h0|⟨h0,h2⟩
   ·exact⟨⟨⟨h1, .inl h0⟩,h3⟩, .inr (Nat.eq_of_beq_eq_true h0)⟩
   ·by_cases hlt:s<ops.length
    ·exact⟨⟨⟨h1, .inr h2⟩,h3⟩, .inl ⟨Nat.eq_of_beq_eq_true h0,hlt⟩⟩
    ·have:s=ops.length:=by omega
     exact⟨⟨⟨h1, .inr h2⟩,h3⟩, .inr this⟩
 simp only[MC,List.mem_flatMap,List.mem_range,Nat.zero_add]
 constructor
 ·rintro⟨i,o,ho,hk,hr,hx⟩;obtain⟨hi,rfl⟩:=List.getElem?_eq_some_iff.1 ho;refine⟨i,hi,?_⟩;rw[ho];simp only[hk,hr,show Nat.beq 0 0=true from rfl,Bool.and_true,cond_true,List.mem_filterMap,List.mem_range];simp only[Iy,List.mem_filterMap]at hx;obtain⟨s,hs,hc⟩:=hx;cases hb:(Nat.ble s (Fu (λh=>h.2.testBit i) (Po ops) ops.length) && (Nat.beq s ops.length|| !((maskAt (Wo ops) i).testBit s)) && !(Nat.ble i s && Nat.ble s (Fu (λh=>Nat.ble i h.1) (Po ops) ops.length)))with
  |false=>rw[hb]at hc;simp at hc
  |true=>
   rw[hb]at hc;have hs':s∈(Po ops).map (·.1)\/s=ops.length:=by simpa using hs
   have hle:s<=ops.length:=by
    rcases hs' with g|g
    ·have:=(hmem s).1 g;omega
    ·omega
   refine⟨s,by omega,?_⟩;rw[(core i s hle).1 ⟨hb,hs'⟩];exact hc
 ·rintro⟨i,hi,hx⟩;rw[List.getElem?_eq_getElem hi]at hx;simp only at hx;cases hk:(Nat.beq (B3 ops[i].op) 0 && EJ ops[i].op)with
  |false=>rw[hk]at hx;simp at hx
  |true=>
   rw[hk]at hx;simp only[cond_true,List.mem_filterMap,List.mem_range]at hx;obtain⟨s,hs,hc⟩:=hx;simp only[Bool.and_eq_true]at hk;refine⟨i,ops[i],List.getElem?_eq_getElem hi,Nat.eq_of_beq_eq_true hk.1,hk.2,?_⟩;cases hb:(Nt ops (Ci ops []) i s && !(Nu ops i s))with
   |false=>rw[hb]at hc;simp at hc
   |true=>
    rw[hb]at hc;obtain⟨g1,g2⟩:=(core i s (by omega)).2 hb;simp only[Iy,List.mem_filterMap];refine⟨s,by simpa using g2,?_⟩;rw[g1];exact hc
theorem FA{α:Type}{l l':List α}(h:∀x,x∈l↔x∈l')(p:α->Bool):l.all p=l'.all p:=by
 rw[Bool.eq_iff_iff]
 simp only[List.all_eq_true,h]
end Go.DI
namespace Go.DI.Y
noncomputable section
variable{α:Type}
abbrev CF(α:Type):=FuncId->List Value->Mem->(Value->Mem->Option α)->Option α
abbrev jo(α:Type):=Program->(TypeId->Bool)->Nat->CF α->AE->Mem->(Value->Mem->Option α)->Option α
abbrev DF:=FuncId->List Value->Mem->Option (Value×Mem)
theorem kE{r:Option Value}{m:Mem}{q:Value->Mem->Option α}:Eb (match r with|some v=>some (v,m)|none=>none) q=ob r λv=>q v m:=by cases r<;>rfl
def eJ(r:Option (BI×Made))(m:Mem)(q:Value->Mem->Option α):Option α:=
 Option.rec (motive:=λ_=>Option α) none (λp=>Prod.rec (motive:=λ_=>Option α) (λx k=>
  (λlay:BI->Option α=>BI.rec (motive:=λ_=>Option α) (lay .none) (λo c=>ZE c λc=>lay (.cells o c)) (λo es c=>lay (.map o es c)) (λs p=>lay (.siter s p)) x)
   λx=>NX m.size λz=>P1 m x λm'=>q (k.val z) m') p) r
theorem eK(r:Option (BI×Made))(m:Mem)(q:Value->Mem->Option α):eJ r m q=Eb (match r with|some (x,k)=>some (k.val m.size,m.push x)|none=>none) q:=by
 cases r with
 |none=>rfl
 |some p=>
  obtain⟨x,k⟩:=p;show(BI.rec (motive:=λ_=>Option α) _ _ _ _ x:Option α)=_;simp only[Ja,HC,IK];cases x<;>rfl
def r7(v:Value)(q:Value->Option α):Option α:=
 match v with
 | .pointer (some a)=>q (.pointer (some a))
 | .func (.func f) a b=>q (.func (.func f) a b)
 |_=>none
section
variable(P:Program)
def P5(m:Mem)(b off:Nat)(vs:List Value)(q:Mem->Option α):Option α:=
 cellsOf (OO m b) λo c=>Bool.rec (motive:=λ_=>Option α) none (LW c off vs λc'=>J7 m b (.cells true c') q) o
theorem Ss(m:Mem)(b off:Nat)(vs:List Value)(q:Mem->Option α):P5 m b off vs q=ob (Df m b off vs) q:=by
 simp only[P5,Df,HE,J9]
 cases m.get b<;>try rfl
 rename_i o c
 cases o with
 |false=>rfl
 |true=>
  simp only[HD,J8];split
  ·split<;>rfl
  ·rfl
def Uv(sp:Option Nat)(m:Mem)(b off:Nat)(vs:List Value)(q:Mem->Option α):Option α:=match sp with|none=>P5 m b off vs q|some _=>none
theorem Su(sp:Option Nat)(m:Mem)(b off:Nat)(vs:List Value)(q:Mem->Option α):Uv sp m b off vs q=ob (Ie sp m b off vs) q:=by
 cases sp with
 |none=>exact Ss _ _ _ _ _
 |some _=>rfl
def appendF(m:Mem)(tS tX:TypeId)(s x:Value)(k:Value->Mem->Option α):Option α:=
 match P.underlying tS,P.underlying tX with
 |_,some (.int _)|_,none=>none
 |some (.slice e),some _=>match s,Bh P e,bytesOf P e,lenOf x with
  | .slice base sLen sCap,some size,some bytes,some n=>
   if size=0 then none else
   match CG m size n x with
   |some new=>
    if sLen+n<=sCap then
     (match base with
     |none=>if n=0 then k (.slice none (sLen+n) sCap) m else none
     |some ⟨b,off,sp⟩=>if n=0 then k (.slice (some ⟨b,off,sp⟩) (sLen+n) sCap) m else
      Uv sp m b (off+sLen*size) new λm'=>NX (sLen+n) λq=>k (.slice (some ⟨b,off,sp⟩) q sCap) m')
    else if(sLen+n)*bytes<=140737488355328/\(sLen+n:Nat)<=4611686018427387904/\0<bytes/\(D5 P e 1).isSome=true then
     match CG m size sLen s with
     |some old=>
      if(new.all one && old.all one)=true/\old.length=sLen*size/\new.length=n*size then
      (match base with
      |some ⟨b,_,some e'⟩=>if e'=size then
        (match m.get b with
        | .cells true _=>ZE (old++new) λl=>NX m.size λz=>NX (sLen+n) λq=>P1 m (.cells true l) λm'=>J7 m' b .none λm'=>k (.slice (some ⟨z,0,some size⟩) q q) m'
        |_=>none)
       else none
      |_=>ZE (old++new) λl=>NX m.size λz=>NX (sLen+n) λq=>P1 m (.cells true l) λm'=>k (.slice (some ⟨z,0,some size⟩) q q) m')else none
     |none=>none
    else none
   |none=>none
  |_,_,_,_=>none
 |_,_=>none
theorem appendF_eq(m:Mem)(tS tX:TypeId)(s x:Value)(k:Value->Mem->Option α):appendF P m tS tX s x k=Eb (Bp P m tS tX s x) k:=by
 unfold appendF Bp
 cases P.underlying tX with
 |none=>cases P.underlying tS<;>rfl
 |some dX=>
  cases P.underlying tS with
  |none=>cases dX<;>rfl
  |some dS=>
   cases dS<;>cases dX<;>try rfl
   all_goals
    simp only;cases s<;>try rfl
    cases Bh P _<;>try rfl
    cases bytesOf P _<;>try rfl
    cases lenOf x<;>try rfl
    simp only;rename_i base sLen sCap size bytes n;by_cases h0:size=0
    ·simp only[h0,if_true];rfl
    ·simp only[h0,if_false];cases CG m size n x with
     |none=>rfl
     |some new=>
      simp only;by_cases h1:sLen+n<=sCap
      ·simp only[h1,if_true];cases base with
       |none=>by_cases h2:n=0<;>simp only[h2,if_true,if_false] <;>rfl
       |some ad=>
        obtain⟨b,off,sp⟩:=ad;simp only;by_cases h2:n=0
        ·simp only[h2,if_true];rfl
        ·simp only[h2,if_false,Su];cases Ie sp m b (off+sLen*size) new<;>simp only[ob_some,Um,Eb,HC]
      ·simp only[h1,if_false];rw[eC];refine Yt λh2=>?_;cases CG m size sLen _ with
       |none=>rfl
       |some old=>
         simp only;by_cases h3:(new.all one && old.all one)=true/\old.length=sLen*size/\new.length=n*size
         ·rw[if_pos h3,if_pos h3];cases base with
          |none=>simp only[Ja,IK,HC,Eb]
          |some ad=>
           obtain⟨b,off,sp⟩:=ad;cases sp with
           |none=>simp only[Ja,IK,HC,Eb]
           |some e'=>
            simp only;by_cases h4:e'=size
            ·simp only[h4,if_true];cases m.get b with
             |none=>rfl
             |map=>rfl
             |siter=>rfl
             |cells o c=>cases o with
              |false=>rfl
              |true=>simp only[Ja,IK,J8,HC,Eb]
            ·simp only[h4,if_false];rfl
         ·rw[if_neg h3,if_neg h3];rfl
end
def ZH(c:Call):jo α:=
 Call.rec (motive:=λ_=>jo α) (λcallee args tys=>Callee.rec (motive:=λ_=>jo α)
  (λf P K G cf t m q=>evF f G t λv=>PN v λg fs cs=>Wa args.toList G t λvs=>PO vs cs λr=>PO fs r λl=>cf g l m q)
  (λr s P K G cf t m q=>Eb (Dj P K G (λ_ _ _=>none) t m (.call ⟨.invoke r s,args,tys⟩)) q)
  (λb P K G cf t m q=>match b with
   | .len=>(match args.toList,tys.toList with
    | [x],[ty]=>evF x G t λv=>eH (Q4 P m ty v) λv=>q v m
    |_,_=>none)
   | .append=>(match args.toList,tys.toList with
    | [s,x],[tS,tX]=>evF s G t λs=>evF x G t λx=>appendF P m tS tX s x q
    |_,_=>none)
   |b=>Eb (Dj P K G (λ_ _ _=>none) t m (.call ⟨.builtin b,args,tys⟩)) q) callee) c
def opF(o:Op):jo α:=
 Op.rec (motive:=λ_=>jo α)
  (λx P K G cf t mm q=>evF x G t λv=>q v mm)
  (λx P K G cf t mm q=>evF x G t λv=>q v mm)
  (λc a b P K G cf t mm q=>evF c G t λv=>asBool v (evF a G t λv=>q v mm) (evF b G t λv=>q v mm))
  (λe P K G cf t mm q=>eJ (E4 P G t (.alloc e)) mm q)
  (λe x P K G cf t mm q=>eJ (E4 P G t (.box e x)) mm q)
  (λty ps P K G cf t mm q=>Eb (Dj P K G (λ_ _ _=>none) t mm (.build ty ps)) q)
  (λty n ps P K G cf t mm q=>Eb (Dj P K G (λ_ _ _=>none) t mm (.buildSlice ty n ps)) q)
  (λmt m k v P K G cf t mm q=>evF m G t λx=>evF k G t λk=>evF v G t λv=>HF P K mm mt x k v λm=>q undef m)
  (λty a P K G cf t mm q=>evF a G t λv=>Ko P mm ty v λv=>Sc P ty v λv=>q v mm)
  (λty a x P K G cf t mm q=>evF a G t λa=>evF x G t λv=>storeF P mm ty v a λm=>q undef m)
  (λg P K G cf t mm q=>Eb (Dj P K G (λ_ _ _=>none) t mm (.ready g)) q)
  (λg P K G cf t mm q=>Eb (Dj P K G (λ_ _ _=>none) t mm (.waits g)) q)
  (λx P K G cf t mm q=>evF x G t λv=>r7 v (λv=>q v mm))
  (λop ty x y yt P K G cf t mm q=>evF x G t λx=>evF y G t λy=>jy P K op ty x y λv=>q v mm)
  (λop ty x P K G cf t mm q=>evF x G t λx=>eH (mN op x) λv=>q v mm)
  (λa b x P K G cf t mm q=>Eb (Dj P K G (λ_ _ _=>none) t mm (.convert a b x)) q)
  (λd x P K G cf t mm q=>Eb (Dj P K G (λ_ _ _=>none) t mm (.sliceToArrayPointer d x)) q)
  (λty x P K G cf t mm q=>Eb (Dj P K G (λ_ _ _=>none) t mm (.makeInterface ty x)) q)
  (λfn a b P K G cf t mm q=>Eb (Dj P K G (λ_ _ _=>none) t mm (.makeFunc fn a b)) q)
  (λty r P K G cf t mm q=>Eb (Dj P K G (λ_ _ _=>none) t mm (.makeMap ty r)) q)
  (λty s P K G cf t mm q=>Eb (Dj P K G (λ_ _ _=>none) t mm (.makeChan ty s)) q)
  (λty l c P K G cf t mm q=>Eb (Dj P K G (λ_ _ _=>none) t mm (.makeSlice ty l c)) q)
  (λty x l h mx P K G cf t mm q=>Eb (Dj P K G (λ_ _ _=>none) t mm (.slice ty x l h mx)) q)
  (λs x f P K G cf t mm q=>evF x G t λv=>Iz P s f v λv=>q v mm)
  (λs x f P K G cf t mm q=>evF x G t λv=>Sq P s f v λv=>q v mm)
  (λty x i P K G cf t mm q=>evF x G t λx=>evF i G t λi=>JA P ty x i λv=>q v mm)
  (λty x i P K G cf t mm q=>Eb (Dj P K G (λ_ _ _=>none) t mm (.index ty x i)) q)
  (λty x k ok P K G cf t mm q=>evF x G t λx=>evF k G t λk=>P4 P K mm ty x k ok λv=>q v mm)
  (λmt m k v P K G cf t mm q=>evF m G t λx=>evF k G t λk=>evF v G t λv=>HF P K mm mt x k v λm=>q undef m)
  (λmt m k P K G cf t mm q=>Eb (Dj P K G (λ_ _ _=>none) t mm (.mapEntry mt m k)) q)
  (λmt m s v P K G cf t mm q=>Eb (Dj P K G (λ_ _ _=>none) t mm (.entryStore mt m s v)) q)
  (λty x P K G cf t mm q=>Eb (Dj P K G (λ_ _ _=>none) t mm (.range ty x)) q)
  (λi s P K G cf t mm q=>Eb (Dj P K G (λ_ _ _=>none) t mm (.next i s)) q)
  (λi P K G cf t mm q=>Eb (Dj P K G (λ_ _ _=>none) t mm (.entry i)) q)
  (λx a b ok P K G cf t mm q=>Eb (Dj P K G (λ_ _ _=>none) t mm (.typeAssert x a b ok)) q)
  (λx i P K G cf t mm q=>evF x G t λv=>asTup v λvs=>Yx vs.toList i λv=>q v mm)
  (λc P K G cf t mm q=>ZH c P K G cf t mm q)
  (λc P K G cf t mm q=>Eb (Dj P K G (λ_ _ _=>none) t mm (.go c)) q)
  (λc P K G cf t mm q=>Eb (Dj P K G (λ_ _ _=>none) t mm (.defer c)) q)
  (λx P K G cf t mm q=>Eb (Dj P K G (λ_ _ _=>none) t mm (.panic x)) q)
  (λc x P K G cf t mm q=>Eb (Dj P K G (λ_ _ _=>none) t mm (.send c x)) q)
  (λct c ok P K G cf t mm q=>Eb (Dj P K G (λ_ _ _=>none) t mm (.recv ct c ok)) q)
  (λcs b P K G cf t mm q=>Eb (Dj P K G (λ_ _ _=>none) t mm (.select cs b)) q)
  o
section
variable{P:Program}{K:TypeId->Bool}{G:Nat}{cf:CF α}{df:DF}{t:AE}{m:Mem}{q:Value->Mem->Option α}
theorem DO{o:Op}(h:B3 o=0):Eb (Dj P K G df t m o) q=ob (BN P K G t m o) λv=>q v m:=by
 simp only[Dj,h];exact kE
theorem RI{o:Op}(h:B3 o=1):Eb (Dj P K G df t m o) q=eJ (E4 P G t o) m q:=by
 simp only[Dj,h,eK]
 cases E4 P G t o<;>rfl
theorem Hi{o:Op}(h:B3 o=2):Eb (Dj P K G df t m o) q=Eb (Ce P K G df t m o) q:=by
 simp only[Dj,h]
theorem Wr(hcf:∀f a m (q:Value->Mem->Option α),cf f a m q=Eb (df f a m) q)(c:Call):ZH c P K G cf t m q=Eb (Dj P K G df t m (.call c)) q:=by
 obtain⟨callee,args,tys⟩:=c
 cases callee with
 |invoke r s=>
  rfl
 |value f=>
  rw[Hi rfl];show(evF f G t λv=>PN v λg fs cs=>Wa args.toList G t λvs=>PO vs cs λr=>PO fs r λl=>cf g l m q)=_;simp only[BZ,PQ,PR,Ce];cases ev G t f with
  |none=>rfl
  |some v=>
   simp only[ob_some];cases v<;>try rfl
   rename_i fn a b;cases fn<;>try rfl
   show ob (evs G t args.toList) _=_;simp only[hcf];cases evs G t args.toList<;>rfl
 |builtin b=>
  cases b<;>try rfl
  ·rw[Hi rfl];show(match args.toList,tys.toList with| [s,x],[tS,tX]=>evF s G t λs=>evF x G t λx=>appendF P m tS tX s x q|_,_=>none)=_;simp only[Ce];generalize args.toList=A;generalize tys.toList=T;rcases A with _|⟨s,_|⟨x,_|⟨y,A⟩⟩⟩<;>rcases T with _|⟨tS,_|⟨tX,_|⟨c,T⟩⟩⟩<;>try rfl
   simp only[BZ];cases ev G t s with
   |none=>rfl
   |some s=>
    simp only[ob_some];cases ev G t x with
    |none=>rfl
    |some x=>exact appendF_eq _ _ _ _ _ _ _
  ·rw[DO rfl];show(match args.toList,tys.toList with| [x],[ty]=>evF x G t λv=>eH (Q4 P m ty v) λv=>q v m|_,_=>none)=_;simp only[BN];generalize args.toList=A;generalize tys.toList=T;rcases A with _|⟨x,_|⟨y,A⟩⟩<;>rcases T with _|⟨ty,_|⟨c,T⟩⟩<;>try rfl
   simp only[BZ,Ut];cases ev G t x<;>rfl
theorem Sb(hcf:∀f a m (q:Value->Mem->Option α),cf f a m q=Eb (df f a m) q)(o:Op):opF o P K G cf t m q=Eb (Dj P K G df t m o) q:=by
 cases o<;>try rfl
 case move x=>rw[DO rfl];exact BZ _ _ _ _
 case assign x=>rw[DO rfl];exact BZ _ _ _ _
 case pick c a b=>
  rw[DO rfl];refine(BZ _ _ _ _).trans ?_;simp only[BN];cases ev G t c with
  |none=>rfl
  |some v=>
   simp only[ob_some];cases v<;>try rfl
   rename_i b';cases b'
   ·exact BZ _ _ _ _
   ·exact BZ _ _ _ _
 case alloc e=>rw[RI rfl];rfl
 case box e x=>rw[RI rfl];rfl
 case load ty a=>
  rw[DO rfl];refine(BZ _ _ _ _).trans ?_;simp only[BN];cases ev G t a with
  |none=>rfl
  |some v=>
   simp only[ob_some,J2,Hd];cases Dq P m ty v with
   |none=>rfl
   |some u=>rfl
 case store ty a x=>
  rw[Hi rfl];refine(BZ _ _ _ _).trans ?_;simp only[Ce];cases ev G t a with
  |none=>rfl
  |some a=>
   simp only[ob_some];refine(BZ _ _ _ _).trans ?_;cases ev G t x with
   |none=>rfl
   |some x=>
    simp only[ob_some];refine(storeF_eq _ _ _ _ _ _).trans ?_;cases Bx P m ty x a<;>rfl
 case nilCheck x=>
  rw[DO rfl];refine(BZ _ _ _ _).trans ?_;simp only[BN];cases ev G t x with
  |none=>rfl
  |some v=>
   simp only[ob_some];cases v<;>try rfl
   ·rename_i a;cases a<;>rfl
   ·rename_i fn _ _;cases fn<;>rfl
 case binOp op ty x y yt=>
  rw[DO rfl];refine(BZ _ _ _ _).trans ?_;simp only[BN];cases ev G t x with
  |none=>rfl
  |some x=>
   simp only[ob_some];refine(BZ _ _ _ _).trans ?_;cases ev G t y with
   |none=>rfl
   |some y=>exact eI _ _ _ _ _ _ _
 case unOp op ty x=>
  rw[DO rfl];refine(BZ _ _ _ _).trans ?_;simp only[BN];cases ev G t x with
  |none=>rfl
  |some x=>
   simp only[ob_some];exact Ut _ _
 case fieldAddr s x f=>
  rw[DO rfl];refine(BZ _ _ _ _).trans ?_;simp only[BN];cases ev G t x with
  |none=>rfl
  |some x=>
   simp only[ob_some];exact NY _ _ _ _ _
 case field s x f=>
  rw[DO rfl];refine(BZ _ _ _ _).trans ?_;simp only[BN];cases ev G t x with
  |none=>rfl
  |some x=>
   simp only[ob_some];exact Wq _ _ _ _ _
 case indexAddr ty x i=>
  rw[DO rfl];refine(BZ _ _ _ _).trans ?_;simp only[BN];cases ev G t x with
  |none=>rfl
  |some x=>
   simp only[ob_some];refine(BZ _ _ _ _).trans ?_;cases ev G t i with
   |none=>rfl
   |some i=>exact NZ _ _ _ _ _
 case extract x i=>
  rw[DO rfl];refine(BZ _ _ _ _).trans ?_;simp only[BN];cases ev G t x with
  |none=>rfl
  |some v=>
   simp only[ob_some];cases v<;>try rfl
   exact P2 _ _ _
 case lookup ty x k ok=>
  rw[DO rfl];refine(BZ _ _ _ _).trans ?_;simp only[BN];cases ev G t x with
  |none=>rfl
  |some x=>
   simp only[ob_some];refine(BZ _ _ _ _).trans ?_;cases ev G t k with
   |none=>rfl
   |some k=>exact Sr _ _ _ _ _ _ _ _
 case mapUpdate ty x k y=>
  rw[Hi rfl];refine(BZ _ _ _ _).trans ?_;simp only[Ce];cases ev G t x with
  |none=>rfl
  |some x=>
   simp only[ob_some];refine(BZ _ _ _ _).trans ?_;cases ev G t k with
   |none=>rfl
   |some k=>
    simp only[ob_some];refine(BZ _ _ _ _).trans ?_;cases ev G t y with
    |none=>rfl
    |some y=>
     simp only[ob_some];refine(I1 _ _ _ _ _ _ _ _).trans ?_;cases C2 P K m ty x k y<;>rfl
 case insert ty x k y=>
  rw[Hi rfl];refine(BZ _ _ _ _).trans ?_;simp only[Ce];cases ev G t x with
  |none=>rfl
  |some x=>
   simp only[ob_some];refine(BZ _ _ _ _).trans ?_;cases ev G t k with
   |none=>rfl
   |some k=>
    simp only[ob_some];refine(BZ _ _ _ _).trans ?_;cases ev G t y with
    |none=>rfl
    |some y=>
     simp only[ob_some];refine(I1 _ _ _ _ _ _ _ _).trans ?_;cases C2 P K m ty x k y<;>rfl
 case call c=>exact Wr hcf c
end
def dstF(n:Nat)(d:Option Tmp):Bool:=Option.rec (motive:=λ_=>Bool) true (λd=>Nat.blt d n) d
theorem LP(n:Nat)(d:Option Tmp):dstF n d=Gb n d:=by
 cases d with
 |none=>rfl
 |some d=>
  show Nat.blt d n=decide (d<n);rw[Bool.eq_iff_iff];simp[Nat.blt_eq]
def putOF(t:AE)(d:Option Tmp)(v:Value)(q:AE->Option α):Option α:=Option.rec (motive:=λ_=>Option α) (q t) (λd=>Uq t d v q) d
theorem J0(t:AE)(d:Option Tmp)(v:Value)(q:AE->Option α):putOF t d v q=q (putD t d v):=by
 cases d with
 |none=>rfl
 |some d=>exact RD _ _ _ _
def nQ(l:List Oper):Nat->Option Oper:=
 List.rec (motive:=λ_=>Nat->Option Oper) (λ_=>none) (λa _ ih i=>Nat.rec (motive:=λ_=>Option Oper) (some a) (λi' _=>ih i') i) l
theorem Uw:∀(l:List Oper) (i:Nat),nQ l i=l[i]?
 | [],i=>by simp;rfl
 |a::l,0=>rfl
 |a::l,i+1=>by
  have:=Uw l i;rw[List.getElem?_cons_succ];exact this
def ZI(t:AE)(d:Nat)(w:Bool):Bool:=
 (λv=>cond (isB v) (Bool.rec (motive:=λ_=>Bool) (not w) w (rZ v)) false) (Option.rec (motive:=λ_=>Value) undef (λv=>v) (eD t d d))
theorem ZJ(t:AE)(d:Nat)(w:Bool):ZI t d w=((match t.at d with| .bool b=>some b|_=>none)==some w):=by
 have e:Option.rec (motive:=λ_=>Value) undef (λv=>v) (eD t d d)=t.at d:=by
  unfold AE.at
  rw[LV];cases Tr.get t d d<;>rfl
 unfold ZI
 rw[e]
 cases t.at d<;>try rfl
 rename_i b
 cases b<;>cases w<;>rfl
def wantF(o:Oper)(ops:List Oper)(t:AE):Bool:=
 Option.rec (motive:=λ_=>Bool) true (λg=>Prod.rec (motive:=λ_=>Bool) (λj w=>Option.rec (motive:=λ_=>Bool) false (λo'=>Option.rec (motive:=λ_=>Bool) false (λd=>ZI t d w) o'.dst) (nQ ops j)) g) o.guard
theorem J1(o:Oper)(ops:List Oper)(t:AE):wantF o ops t=Region.wanted o (EG ops t):=by
 unfold wantF Region.wanted
 cases h:o.guard with
 |none=>rfl
 |some g=>
  obtain⟨j,w⟩:=g;simp only[Uw,EG];cases ops[j]? with
  |none=>rfl
  |some o'=>
   simp only;cases o'.dst with
   |none=>rfl
   |some d=>exact ZJ t d w
abbrev dk(α:Type):=Program->(TypeId->Bool)->Nat->CF α->Nat->List Oper->AE->Mem->(AE->Mem->Option α)->Option α
def opsF(l:List Oper):dk α:=
 List.rec (motive:=λ_=>dk α) (λ_ _ _ _ _ _ t m q=>q t m)
  (λo _ ih P K G cf n ops t m q=>Bool.rec (motive:=λ_=>Option α) none (Bool.rec (motive:=λ_=>Option α) (putOF t o.dst undef λt'=>ih P K G cf n ops t' m q)
   (opF o.op P K G cf t m λv m'=>putOF t o.dst v λt'=>ih P K G cf n ops t' m' q) (wantF o ops t)) (dstF n o.dst)) l
def tE{β:Type}(r:Option (AE×Mem))(q:AE->Mem->Option β):Option β:=match r with|some (t,m)=>q t m|none=>none
theorem Ux(P:Program)(K:TypeId->Bool)(G:Nat)(cf:CF α)(df:DF)(hcf:∀f a m (q:Value->Mem->Option α),cf f a m q=Eb (df f a m) q)(n:Nat)(ops:List Oper)(q:AE->Mem->Option α):∀(l:List Oper) (t:AE) (m:Mem),
  opsF l P K G cf n ops t m q=tE (FF P K G df n ops l t m) q
 | [],t,m=>rfl
 |o::l,t,m=>by
  have ih:=Ux P K G cf df hcf n ops q l
  show Bool.rec (motive:=λ_=>Option α) none (Bool.rec (motive:=λ_=>Option α) (putOF t o.dst undef λt'=>opsF l P K G cf n ops t' m q)
   (opF o.op P K G cf t m λv m'=>putOF t o.dst v λt'=>opsF l P K G cf n ops t' m' q) (wantF o ops t)) (dstF n o.dst)=_
  simp only[J0,ih,Sb hcf,J1,LP,FF];cases Gb n o.dst with
  |false=>rfl
  |true=>
   cases Region.wanted o (EG ops t)with
   |false=>rfl
   |true=>
    simp only[if_true];cases Dj P K G df t m o.op with
    |none=>rfl
    |some r=>rfl
abbrev dj(α:Type):=Program->(TypeId->Bool)->Nat->CF α->Nat->List Oper->AE->Mem->(List Rec->AE->Mem->Option α)->Option α
def recF(l:List Oper):dj α:=
 List.rec (motive:=λ_=>dj α) (λ_ _ _ _ _ _ t m q=>q [] t m)
  (λo _ ih P K G cf n ops t m q=>Bool.rec (motive:=λ_=>Option α) none (Bool.rec (motive:=λ_=>Option α) (putOF t o.dst undef λt'=>ih P K G cf n ops t' m λrs t' m''=>q (⟨false,undef,t,m⟩::rs) t' m'')
   (opF o.op P K G cf t m λv m'=>putOF t o.dst v λt'=>ih P K G cf n ops t' m' λrs t' m''=>q (⟨true,v,t,m⟩::rs) t' m'') (wantF o ops t)) (dstF n o.dst)) l
def tF(r:Option (List Rec×AE×Mem))(q:List Rec->AE->Mem->Option α):Option α:=match r with|some (rs,t,m)=>q rs t m|none=>none
theorem Uy(P:Program)(K:TypeId->Bool)(G:Nat)(cf:CF α)(df:DF)(hcf:∀f a m (q:Value->Mem->Option α),cf f a m q=Eb (df f a m) q)(n:Nat)(ops:List Oper):∀(l:List Oper) (t:AE) (m:Mem) (q:List Rec->AE->Mem->Option α),
  recF l P K G cf n ops t m q=tF (Gd P K G df n ops l t m) q
 | [],t,m,q=>rfl
 |o::l,t,m,q=>by
  have ih:=Uy P K G cf df hcf n ops l
  show Bool.rec (motive:=λ_=>Option α) none (Bool.rec (motive:=λ_=>Option α) (putOF t o.dst undef λt'=>recF l P K G cf n ops t' m λrs t' m''=>q (⟨false,undef,t,m⟩::rs) t' m'')
   (opF o.op P K G cf t m λv m'=>putOF t o.dst v λt'=>recF l P K G cf n ops t' m' λrs t' m''=>q (⟨true,v,t,m⟩::rs) t' m'') (wantF o ops t)) (dstF n o.dst)=_
  simp only[J0,ih,Sb hcf,J1,LP,Gd];cases Gb n o.dst with
  |false=>rfl
  |true=>
   cases Region.wanted o (EG ops t)with
   |false=>
    simp only[if_true];cases Gd P K G df n ops l (putD t o.dst undef) m<;>rfl
   |true=>
    simp only[if_true];cases Dj P K G df t m o.op with
    |none=>rfl
    |some r=>
     obtain⟨v,m'⟩:=r;simp only[Eb];cases Gd P K G df n ops l (putD t o.dst v) m'<;>rfl
def pP(v' v:Value)(q:Option α):Option α:=
 (λg=>asInt v' (λk n=>asInt v (λk' n'=>Bool.rec (motive:=λ_=>Option α) g (Bool.rec (motive:=λ_=>Option α) none q (eqF n n')) (kEq k k')) g) g) (Bool.rec (motive:=λ_=>Option α) none q (Nv 8 v' v))
theorem Jb(b:Bool)(q:Option α):Bool.rec (motive:=λ_=>Option α) none q b=cond b q none:=by cases b<;>rfl
theorem ZK(v' v:Value)(q:Option α):pP v' v q=cond (Nv 8 v' v) q none:=by
 unfold pP
 refine Eq.trans ?_ (Jb (Nv 8 v' v) q)
 cases v'<;>try rfl
 cases v<;>try rfl
 rename_i k a k' b
 rw[Jb (Nv 8 (.int k a) (.int k' b)) q]
 show Bool.rec (motive:=λ_=>Option α) _ (Bool.rec (motive:=λ_=>Option α) none q (eqF a b)) (kEq k k')=_
 rw[Sp,eqF_eq]
 show _=cond (decide (k=k') && decide (a=b)) q none
 have hab:(a==b)=decide (a=b):=by rw[Bool.eq_iff_iff];simp
 rw[hab]
 by_cases h:k=k'
 ·subst h;rw[decide_eq_true rfl,Bool.true_and];exact Jb _ _
 ·rw[decide_eq_false h,Bool.false_and];have hv:Nv 8 (.int k a) (.int k' b)=false:=by show(decide (k=k') && decide (a=b))=false;rw[decide_eq_false h];rfl
  simp only[hv]
  try rfl
def eL(P:Program)(K:TypeId->Bool)(G:Nat)(ops:List Oper)(rs:List Rec)(m':Mem)(x:Nat×Nat)(q:Option α):Option α:=
 match rs[x.1]?,ops[x.1]? with
 |some r,some o=>Bool.rec (motive:=λ_=>Option α) q (match o.op with
   | .load ty a=>evF a G r.t λv=>Ko P (CI rs m' x.2) ty v λv=>Sc P ty v λv'=>pP v' r.v q
   | .convert a b y=>evF y G r.t λv=>ob (H3 P (CI rs m' x.2) a b v) λv'=>pP v' r.v q
   |_=>Bool.rec (motive:=λ_=>Option α) none q (HP P K G ops rs m' x)) r.want
 |_,_=>none
theorem eM(P:Program)(K:TypeId->Bool)(G:Nat)(ops:List Oper)(rs:List Rec)(m':Mem)(x:Nat×Nat)(q:Option α):eL P K G ops rs m' x q=cond (HP P K G ops rs m' x) q none:=by
 unfold eL
 have hc:HP P K G ops rs m' x=(match rs[x.1]?,ops[x.1]? with
  |some r,some o=> !r.want||(match BN P K G r.t (CI rs m' x.2) o.op with|some v=>Nv 8 v r.v|none=>false)
  |_,_=>false):=rfl
 cases hr:rs[x.1]? with
 |none=>rw[hr]at hc;rw[hc];rfl
 |some r=>
  cases ho:ops[x.1]? with
  |none=>rw[hr,ho]at hc;rw[hc];rfl
  |some o=>
   rw[hr,ho]at hc;simp only at hc ⊢;cases hw:r.want with
   |false=>rw[hc,hw];rfl
   |true=>
    simp only;have hg:Bool.rec (motive:=λ_=>Option α) none q (HP P K G ops rs m' x)=cond (HP P K G ops rs m' x) q none:=Jb _ _;cases hop:o.op<;>try exact hg
    case convert a b y=>
     rw[hc,hw,hop];simp only[BZ,ZK,BN,Bool.not_true,Bool.false_or];cases ev G r.t y with
     |none=>rfl
     |some v=>
      simp only[ob_some];cases H3 P (CI rs m' x.2) a b v with
      |none=>rfl
      |some v'=>rfl
    rename_i ty a;rw[hc,hw,hop];simp only[BZ,J2,Hd,ZK,BN,Bool.not_true,Bool.false_or];cases ev G r.t a with
    |none=>rfl
    |some v=>
     simp only[ob_some];cases Dq P (CI rs m' x.2) ty v with
     |none=>rfl
     |some u=>
      simp only[ob_some,SX];cases YV P ty u<;>rfl
def ZL(P:Program)(K:TypeId->Bool)(G:Nat)(ops:List Oper)(rs:List Rec)(m':Mem)(l:List (Nat×Nat))(q:Option α):Option α:=
 List.rec (motive:=λ_=>Option α) q (λx _ ih=>eL P K G ops rs m' x ih) l
theorem RJ(P:Program)(K:TypeId->Bool)(G:Nat)(ops:List Oper)(rs:List Rec)(m':Mem):∀(l:List (Nat×Nat)) (q:Option α),ZL P K G ops rs m' l q=cond (l.all (HP P K G ops rs m')) q none
 | [],q=>rfl
 |x::l,q=>by
  have ih:=RJ P K G ops rs m' l q;show eL P K G ops rs m' x (ZL P K G ops rs m' l q)=_;rw[eM,ih,List.all_cons];cases HP P K G ops rs m' x<;>rfl
def drawF(P:Program)(K:TypeId->Bool)(G:Nat)(cf:CF α)(n:Nat)(ops:List Oper)(t:AE)(m:Mem)(q:AE->Mem->Option α):Option α:=
 Bool.rec (motive:=λ_=>Option α) none (recF ops P K G cf n ops t m λrs t' m'=>ZL P K G ops rs m' (KP ops) (Bool.rec (motive:=λ_=>Option α) none (q t' m')
  ((Ip ops).all (Q5 rs m')))) (Qc ops)
theorem ZM(P:Program)(K:TypeId->Bool)(G:Nat)(cf:CF α)(df:DF)(hcf:∀f a m (q:Value->Mem->Option α),cf f a m q=Eb (df f a m) q)(n:Nat)(ops:List Oper)(t:AE)(m:Mem)(q:AE->Mem->Option α):drawF P K G cf n ops t m q=tE (A6 P K G df n ops t m) q:=by
 unfold drawF A6
 simp only[Uy P K G cf df hcf,Qd,RJ,FA (MQ ops),FA (MR ops)]
 cases Kj ops (Ci ops [])with
 |false=>rfl
 |true=>
  simp only[if_true];cases Gd P K G df n ops ops t m with
  |none=>rfl
  |some r=>
   obtain⟨rs,t',m'⟩:=r;simp only[tF];cases(MC ops (Ci ops [])).all (HP P K G ops rs m')with
   |false=>rfl
   |true=>cases(MD ops (Ci ops [])).all (Q5 rs m')<;>rfl
abbrev ExK(α:Type):=Ex->AE->Mem->Option α
def onE(r:Option (Ex×AE×Mem))(q:ExK α):Option α:=match r with|some (e,t,m)=>q e t m|none=>none
def loopF(body:AE->Mem->ExK α->Option α)(k:Nat):AE->Mem->ExK α->Option α:=
 Nat.rec (motive:=λ_=>AE->Mem->ExK α->Option α) (λ_ _ _=>none) (λ_ ih t m q=>body t m λe t' m'=>Ex.rec (motive:=λ_=>Option α) (ih t' m' q) (λid=>q (.exit id) t' m') (q .ret t' m') e) k
theorem RK{body:AE->Mem->ExK α->Option α}{b:AE->Mem->Option (Ex×AE×Mem)}(hb:∀t m q,body t m q=onE (b t m) q):∀(k:Nat) (t:AE) (m:Mem) (q:ExK α),loopF body k t m q=onE (B2 b k t m) q
 |0,t,m,q=>rfl
 |k+1,t,m,q=>by
  have ih:=RK hb k;show(body t m λe t' m'=>Ex.rec (motive:=λ_=>Option α) (loopF body k t' m' q) (λid=>q (.exit id) t' m') (q .ret t' m') e)=_;simp only[hb,ih,B2];cases b t m with
  |none=>rfl
  |some r=>
   obtain⟨e,t',m'⟩:=r;cases e<;>rfl
abbrev LK(α:Type):=(AE->Mem->ExK α->Option α)->Code->Nat->AE->Mem->ExK α->Option α
abbrev U9(α:Type):=Program->(TypeId->Bool)->Nat->CF α->LK α->Nat->Nat->AE->Mem->ExK α->Option α
def codeF(c:Code):U9 α:=
 Code.rec (motive:=λ_=>U9 α)
  (λ_ _ _ _ _ _ _ t m q=>q .normal t m)
  (λ_ ops draw P K G cf _ n _ t m q=>Bool.rec (motive:=λ_=>Option α) (opsF ops.toList P K G cf n ops.toList t m λt m=>q .normal t m) (drawF P K G cf n ops.toList t m λt m=>q .normal t m) draw)
  (λ_ _ ia ib P K G cf L n k t m q=>ia P K G cf L n k t m λe t m=>Ex.rec (motive:=λ_=>Option α) (ib P K G cf L n k t m q) (λid=>q (.exit id) t m) (q .ret t m) e)
  (λc _ _ ix iy P K G cf L n k t m q=>evF c G t λv=>asBool v (ix P K G cf L n k t m q) (iy P K G cf L n k t m q))
  (λid _ ib P K G cf L n k t m q=>ib P K G cf L n k t m λe t m=>Ex.rec (motive:=λ_=>Option α) (q .normal t m) (λid'=>Bool.rec (motive:=λ_=>Option α) (q (.exit id') t m) (q .normal t m) (Nat.beq id' id)) (q .ret t m) e)
  (λc ib P K G cf L n k t m q=>L (λt m q=>ib P K G cf L n k t m q) c k t m q)
  (λ_ _ _ _ _ _ _ _ _ _ _ _ _ _ _ _=>none)
  (λid _ _ _ _ _ _ _ t m q=>q (.exit id) t m)
  (λ_ ic P K G cf L n k t m q=>ic P K G cf L n k t m q)
  (λ_ _ _ _ _ _ _ _ t m q=>q .normal t m)
  (λ_ _ _ _ _ _ _ _ _ _ _=>none)
  (λ_ _ _ _ _ _ _ t m q=>q .ret t m)
  (λ_ _ _ _ _ _ _ _ _ _ _=>none)
  c
theorem codeF_eq(P:Program)(K:TypeId->Bool)(G:Nat)(cf:CF α)(df:DF)(hcf:∀f a m (q:Value->Mem->Option α),cf f a m q=Eb (df f a m) q)(L:LK α)(n k:Nat) (hL:∀(body:AE->Mem->ExK α->Option α) (c:Code) (t:AE) (m:Mem) (q:ExK α),(∀t m q,body t m q=onE (AH P K G df (A6 P K G df n) n k c t m) q)->L body c k t m q=onE (B2 (AH P K G df (A6 P K G df n) n k c) k t m) q):∀(c:Code) (t:AE) (m:Mem) (q:ExK α),codeF c P K G cf L n k t m q=onE (AH P K G df (A6 P K G df n) n k c t m) q:=by
 intro c
 induction c with
 |skip=>intros;rfl
 |label l=>intros;rfl
 |region id ops draw=>
  intro t m q;show Bool.rec (motive:=λ_=>Option α) (opsF ops.toList P K G cf n ops.toList t m λt m=>q .normal t m) (drawF P K G cf n ops.toList t m λt m=>q .normal t m) draw=_;rw[Ux P K G cf df hcf,ZM P K G cf df hcf];simp only[AH];cases draw with
  |false=>
   simp only[cond_false];cases FF P K G df n ops.toList ops.toList t m<;>rfl
  |true=>
   simp only[cond_true];cases A6 P K G df n ops.toList t m<;>rfl
 |seq a b iha ihb=>
  intro t m q;refine(iha t m _).trans ?_;simp only[AH];cases AH P K G df (A6 P K G df n) n k a t m with
  |none=>rfl
  |some r=>
   obtain⟨e,t',m'⟩:=r;cases e with
   |normal=>exact ihb t' m' q
   |exit id=>rfl
   |ret=>rfl
 |cond c x y ihx ihy=>
  intro t m q;refine(BZ _ _ _ _).trans ?_;simp only[AH];cases ev G t c with
  |none=>rfl
  |some v=>
   simp only[ob_some];cases v<;>try rfl
   rename_i b;cases b with
   |true=>exact ihx t m q
   |false=>exact ihy t m q
 |block id c ih=>
  intro t m q;refine(ih t m _).trans ?_;simp only[AH];cases AH P K G df (A6 P K G df n) n k c t m with
  |none=>rfl
  |some r=>
   obtain⟨e,t',m'⟩:=r;cases e with
   |normal=>rfl
   |ret=>rfl
   |exit id'=>
    show Bool.rec (motive:=λ_=>Option α) (q (.exit id') t' m') (q .normal t' m') (Nat.beq id' id)=_;rw[Sd];simp only;by_cases h:id'=id
    ·rw[decide_eq_true h,if_pos h];rfl
    ·rw[decide_eq_false h,if_neg h];rfl
 |loop c ih=>
  intro t m q;exact hL _ c t m q λt m q=>ih t m q
 |exit id=>intros;rfl
 |ret=>intros;rfl
 |rangeFunc=>intros;rfl
 |scope c ih=>intro t m q;exact ih t m q
 |goto=>intros;rfl
 |refuse=>intros;rfl
def MS(l:List ResultVar):Program->AE->Mem->(List Value->Option α)->Option α:=
 List.rec (motive:=λ_=>Program->AE->Mem->(List Value->Option α)->Option α) (λ_ _ _ q=>q [])
  (λr _ ih P t m q=>match r with
   | .tmp d=>Mt t d λv=>ih P t m λvs=>q (v::vs)
   | .cell a ty=>Mt t a λa=>Ko P m ty a λv=>ih P t m λvs=>q (v::vs)) l
theorem IC(P:Program)(t:AE)(m:Mem):∀(l:List ResultVar) (q:List Value->Option α),MS l P t m q=ob (DM P t m l) q
 | [],q=>rfl
 | .tmp d::l,q=>by
  have ih:=IC P t m l;show(Mt t d λv=>MS l P t m λvs=>q (v::vs))=_;simp only[Mu,ih,DM];cases DM P t m l<;>rfl
 | .cell a ty::l,q=>by
  have ih:=IC P t m l;show(Mt t a λa=>Ko P m ty a λv=>MS l P t m λvs=>q (v::vs))=_;simp only[Mu,J2,ih,DM];cases Dq P m ty (t.at a)with
  |none=>rfl
  |some v=>
   simp only[ob_some];cases DM P t m l<;>rfl
def Yc(l:List Value):Nat->(AE->Option α)->Option α:=
 List.rec (motive:=λ_=>Nat->(AE->Option α)->Option α) (λ_ q=>q .nil) (λv _ ih i q=>ih (Nat.succ i) λt=>Uq t i v q) l
theorem MU:∀(l:List Value) (i:Nat) (q:AE->Option α),Yc l i q=q (GF i l)
 | [],_,_=>rfl
 |v::l,i,q=>(MU l (i+1) λt=>Uq t i v q).trans (RD _ _ _ _)
def kF(P:Program)(K:TypeId->Bool)(G:Nat)(k:Nat)(cf:CF α)(fn:Func)(c:Code)(args:List Value)(m:Mem)(q:Value->Mem->Option α):Option α:=
 Yc args 0 λt=>codeF c P K G cf (λbody _ k t m q=>loopF body k t m q) (max args.length fn.ntmps) k t m λe t' m'=>Ex.rec (motive:=λ_=>Option α) (MS fn.results.toList P t' m' λvs=>q (FT vs) m') (λ_=>none) (MS fn.results.toList P t' m' λvs=>q (FT vs) m') e
def callK(P:Program)(K:TypeId->Bool)(G:Nat)(k:Nat):CF α:=
 Nat.rec (motive:=λ_=>CF α) (λ_ _ _ _=>none) (λk ih f args m q=>Option.rec (motive:=λ_=>Option α) none (λfn=>Option.rec (motive:=λ_=>Option α) none (λc=>kF P K G k ih fn c args m q) fn.body) P.funcs[f]?) k
theorem callK_eq(P:Program)(K:TypeId->Bool)(G:Nat):∀(k:Nat) (f:FuncId) (args:List Value) (m:Mem) (q:Value->Mem->Option α),callK P K G k f args m q=Eb (Cr P K G k f args m) q
 |0,_,_,_,_=>rfl
 |k+1,f,args,m,q=>by
  have ih:=callK_eq P K G k;simp only[Cr];show Option.rec (motive:=λ_=>Option α) none (λfn=>Option.rec (motive:=λ_=>Option α) none (λc=>kF P K G k (callK P K G k) fn c args m q) fn.body) P.funcs[f]?=_;cases P.funcs[f]? with
  |none=>rfl
  |some fn=>
   simp only;cases hb:fn.body with
   |none=>rfl
   |some c=>
    simp only[kF,MU,codeF_eq P K G (callK P K G k) (Cr P K G k) ih (λbody _ k t m q=>loopF body k t m q) _ k (λbody c t m q hb=>RK hb k t m q),IC];cases AH P K G (Cr P K G k) (A6 P K G (Cr P K G k) (max args.length fn.ntmps)) (max args.length fn.ntmps) k c (GF 0 args) m with
    |none=>rfl
    |some r=>
     obtain⟨e,t',m'⟩:=r;cases e with
     |normal=>
      simp only[onE];cases DM P t' m' fn.results.toList<;>rfl
     |exit id=>rfl
     |ret=>
      simp only[onE];cases DM P t' m' fn.results.toList<;>rfl
end
end Go.DI.Y
namespace Go.DI
section
variable{P:Program}{K:TypeId->Bool}{G B0:Nat}
def MT(P:Program)(K:TypeId->Bool)(G:Nat)(cf:FuncId->List Value->Mem->Option (Value×Mem))(k:Nat)(f:FuncId)(args:List Value)(m:Mem):Option (Value×Mem):=
 match P.funcs[f]? with
  |some fn=>match fn.body with
   |some c=>match AH P K G cf (A6 P K G cf (max args.length fn.ntmps)) (max args.length fn.ntmps) k c (GF 0 args) m with
    |some (.normal,t,m')=>match DM P t m' fn.results.toList with
     |some vs=>some (FT vs,m')
     |none=>none
    |some (.ret,t,m')=>match DM P t m' fn.results.toList with
     |some vs=>some (FT vs,m')
     |none=>none
    |_=>none
   |none=>none
  |none=>none
abbrev DT:=FuncId->List Value->Mem->Option (Value×Mem)
def Bw(P:Program)(K:TypeId->Bool)(G:Nat)(o:DT):Nat->FuncId->List Value->Mem->Option (Value×Mem)
 |0,_,_,_=>none
 |k+1,f,args,m=>match o f args m with
  |some r=>some r
  |none=>MT P K G (Bw P K G o k) k f args m
theorem OH{cf:FuncId->List Value->Mem->Option (Value×Mem)}(ih:Bc cf)(k:Nat)(f:FuncId)(args:List Value)(m:Mem)(v:Value)(m':Mem)(h:MT P K G cf k f args m=some (v,m')):Dx m m':=by
 simp only[MT]at h
 split at h<;>try (simp at h;done)
 split at h<;>try (simp at h;done)
 split at h<;>try (simp at h;done)
 all_goals
  rename_i hc;split at h<;>simp at h;rw[←h.2];exact KN ih (λ_ _ _ _ _ h=>Hy ih h) _ _ _ _ _ _ hc
theorem Cb{o:DT}(ho:Bc o):∀(k:Nat),Bc (Bw P K G o k)
 |0=>λf args m v m' h=>by simp[Bw]at h
 |k+1=>λf args m v m' h=>by
  simp only[Bw]at h;split at h
  ·rename_i r hr;simp at h;subst h;exact ho _ _ _ _ _ hr
  ·exact OH (Cb ho k) k f args m v m' h
theorem Yl(Br:P.follows .mixedOrders=true)(hK:Plain P K)(FZ:O2 P){cf:FuncId->List Value->Mem->Option (Value×Mem)}(ih:CT P B0 G cf)(hg:Bc cf)(k:Nat):CT P B0 G (MT P K G cf k):=by
  refine⟨λf args m v m' h=>(OH hg k f args m v m' h).size,λf args m v m' h=>?_,λf args m v m' h=>?_⟩
  ·simp only[MT]at h;split at h<;>try (simp at h;done)
   rename_i fn hfn;split at h<;>try (simp at h;done)
   rename_i c hc;intro ι w args' hr hf hargs;have hlen:=hargs.length
   have ht0:BV ι (max args.length fn.ntmps) (GF 0 args) {tmps:=args'.toArray++Array.replicate (fn.ntmps - args'.toArray.size) undef,defers:= []}:=by
    refine⟨by simp;omega,λd=>?_⟩;rw[MF];simp only[Nat.zero_le,if_true,Nat.sub_zero];cases hd:args[d]? with
    |some v=>
     obtain⟨y,hy,hry⟩:=hargs.get hd
     have hlt:d<args'.length:=by
      rcases Nat.lt_or_ge d args'.length with h1|h1
      ·exact h1
      ·rw[List.getElem?_eq_none h1]at hy;cases hy
     have:(args'.toArray++Array.replicate (fn.ntmps - args'.toArray.size) undef).getD d undef=y:=by
      rw[Array.getD_eq_getD_getElem?,Array.getElem?_append_left (by simpa using hlt),List.getElem?_toArray,hy];rfl
     rw[this];exact hry
    |none=>
     have hge:args.length<=d:=List.getElem?_eq_none_iff.1 hd
     have:(args'.toArray++Array.replicate (fn.ntmps - args'.toArray.size) undef).getD d undef=undef:=by
      rw[Array.getD_eq_getD_getElem?,Array.getElem?_append_right (by simp;omega),Array.getElem?_replicate];split<;>rfl
     rw[this];exact AV.undef _
   have fin:∀(e:Ex) (t':AE) (m₁:Mem),AH P K G cf (A6 P K G cf (max args.length fn.ntmps)) (max args.length fn.ntmps) k c (GF 0 args) m=some (e,t',m₁)->(e= .normal\/e= .ret)->
     (match DM P t' m₁ fn.results.toList with|some vs=>some (FT vs,m₁)|none=>none)=some (v,m')->
     Calls P f args'.toArray w λe w'=>∃v' ι',e= .returned v'/\AV ι' v v'/\Rel B0 G ι' m' w'/\Dd ι ι' m m' w w':=by
    intro e t' m₁ hcode he hres;split at hres<;>simp at hres;rename_i vs hvs;obtain⟨rfl,rfl⟩:=hres;refine calls_of_wp hfn hc (Gv hK ih (Ha Br hK ih hg) c _ _ _ _ _ hcode ι w _ _ hr ht0 hf λa' w' ha=>?_);obtain⟨ι',g1,g2,g3,g4⟩:=ha;obtain⟨v',q1,q2⟩:=Fo (P:=P) g2 g1 hvs;rcases he with rfl|rfl
    ·exact⟨g4,v',q1,v',ι',rfl,q2,g2,g3⟩
    ·exact⟨g4,v',q1,v',ι',rfl,q2,g2,g3⟩
   split at h<;>try (simp at h;done)
   ·rename_i t' m₁ hcode;exact fin _ _ _ hcode (.inl rfl) h
   ·rename_i t' m₁ hcode;exact fin _ _ _ hcode (.inr rfl) h
  ·simp only[MT]at h;split at h<;>try (simp at h;done)
   rename_i fn hfn;split at h<;>try (simp at h;done)
   rename_i c hc;exact⟨fn,hfn,by simp[hc],FZ f fn hfn (by simp[hc])⟩
theorem Dg(Br:P.follows .mixedOrders=true)(hK:Plain P K)(FZ:O2 P){o:DT}(ho:CT P B0 G o)(hg:Bc o):∀(k:Nat),CT P B0 G (Bw P K G o k)
 |0=>⟨λf args m v m' h=>by simp[Bw]at h,λf args m v m' h=>by simp[Bw]at h,λf args m v m' h=>by simp[Bw]at h⟩
 |k+1=>by
  have ih:=Yl Br hK FZ (Dg Br hK FZ ho hg k) (Cb hg k) k;refine⟨λf args m v m' h=>?_,λf args m v m' h=>?_,λf args m v m' h=>?_⟩
  all_goals
   simp only[Bw]at h;split at h
  ·rename_i r hr;simp at h;subst h;exact ho.size _ _ _ _ _ hr
  ·exact ih.size _ _ _ _ _ h
  ·rename_i r hr;simp at h;subst h;exact ho.ok _ _ _ _ _ hr
  ·exact ih.ok _ _ _ _ _ h
  ·rename_i r hr;simp at h;subst h;exact ho.body _ _ _ _ _ hr
  ·exact ih.body _ _ _ _ _ h
end
end Go.DI
namespace Go.DI
noncomputable section
def up(x:Nat->Value)(l:List (Nat×Value)):Nat->Value:=
 List.rec (motive:=λ_=>Nat->Value) x (λp _ ih i=>Bool.rec (motive:=λ_=>Value) (ih i) p.2 (Nat.beq p.1 i)) l
def AA(n:Nat)(x:Nat->Value):AE:=Nat.rec (motive:=λ_=>AE) .nil (λi t=>AE.set t i (x i)) n
theorem FK(x:Nat->Value)(d:Nat):∀n,(AA n x).at d=if d<n then x d else undef
 |0=>by simp[AA,AE.at,Tr.get]
 |n+1=>by
  have ih:=FK x d n;show(AE.set (AA n x) n (x n)).at d=_;rw[AE.at_set,ih];by_cases h:d=n
  ·subst h;simp
  ·by_cases h2:d<n
   ·simp[h,h2,Nat.lt_succ_of_lt h2]
   ·have:¬d<n+1:=by omega
    simp[h,h2,this]
def x0:Nat->Value:=λ_=>undef
def CM(l:List Value):Nat->Value:=
 List.rec (motive:=λ_=>Nat->Value) x0 (λa _ ih i=>Nat.rec (motive:=λ_=>Value) a (λi' _=>ih i') i) l
theorem PV:∀(l:List Value) (i:Nat),CM l i=(l[i]?).getD undef
 | [],i=>by simp[CM,x0]
 |a::l,0=>rfl
 |a::l,i+1=>by
  have:=PV l i;rw[List.getElem?_cons_succ];exact this
section
variable{P:Program}{K:TypeId->Bool}{G B0:Nat}
abbrev FQ:=FuncId->List Value->Mem->Option (Value×Mem)
def Wg(P:Program)(fn:Func):Option (Ex×AE×Mem)->Option (Value×Mem)
 |some (.normal,t,m')=>match DM P t m' fn.results.toList with
  |some vs=>some (FT vs,m')
  |none=>none
 |some (.ret,t,m')=>match DM P t m' fn.results.toList with
  |some vs=>some (FT vs,m')
  |none=>none
 |_=>none
def Fq(P:Program)(K:TypeId->Bool)(G:Nat)(cf:FQ)(k:Nat)(f:FuncId)(args:List Value)(m:Mem):Option (Value×Mem):=
 match P.funcs[f]? with
  |some fn=>match fn.body with
   |some c=>Wg P fn (AH P K G cf (A6 P K G cf (max args.length fn.ntmps)) (max args.length fn.ntmps) k c (AA (max args.length fn.ntmps) (CM args)) m)
   |none=>none
  |none=>none
def nL(P:Program)(f:FuncId):List TypeId:=match P.funcs[f]? with|some fn=>fn.resultTypes.toList|none=> []
def nM(P:Program):List TypeId->List Value->Bool
 | [],[]=>true
 |t::ts,v::vs=>YV P t v && nM P ts vs
 |_,_=>false
def IP(P:Program)(f:FuncId)(v:Value):Bool:=
 match nL P f with
 | [t]=>YV P t v
 | []=>true
 |ts=>match v with| .tuple cs=>nM P ts cs.toList|_=>false
def OE(P:Program)(f:FuncId):Option (Value×Mem)->Option (Value×Mem)
 |some (v,m)=>cond (IP P f v) (some (v,m)) none
 |none=>none
theorem Mc{P:Program}{f:FuncId}{r:Option (Value×Mem)}{x:Value×Mem}(h:OE P f r=some x):r=some x:=by
 cases r with
 |none=>cases h
 |some p=>
  obtain⟨v,m⟩:=p;simp only[OE]at h;cases hk:IP P f v<;>rw[hk]at h<;>simp at h;rw[h]
def AL(P:Program)(K:TypeId->Bool)(G:Nat)(o:DT):Nat->FuncId->List Value->Mem->Option (Value×Mem)
 |0,_,_,_=>none
 |k+1,f,args,m=>OE P f (match o f args m with
  |some r=>some r
  |none=>Fq P K G (AL P K G o k) k f args m)
theorem KS{cf:FQ}(ih:Bc cf)(k:Nat)(f:FuncId)(args:List Value)(m:Mem)(v:Value)(m':Mem)(h:Fq P K G cf k f args m=some (v,m')):Dx m m':=by
 simp only[Fq]at h
 split at h<;>try (simp at h;done)
 split at h<;>try (simp at h;done)
 simp only[Wg]at h
 split at h<;>try (simp at h;done)
 all_goals
  rename_i hc;split at h<;>simp at h;rw[←h.2];exact KN ih (λ_ _ _ _ _ h=>Hy ih h) _ _ _ _ _ _ hc
theorem KT{o:DT}(ho:Bc o):∀(k:Nat),Bc (AL P K G o k)
 |0=>λf args m v m' h=>by simp[AL]at h
 |k+1=>λf args m v m' h=>by
  simp only[AL]at h;have h:=Mc h;split at h
  ·rename_i r hr;simp at h;subst h;exact ho _ _ _ _ _ hr
  ·exact KS (KT ho k) k f args m v m' h
theorem Qo(Br:P.follows .mixedOrders=true)(hK:Plain P K)(FZ:O2 P){cf:FQ}(ih:CT P B0 G cf)(hg:Bc cf)(k:Nat):CT P B0 G (Fq P K G cf k):=by
  refine⟨λf args m v m' h=>(KS hg k f args m v m' h).size,λf args m v m' h=>?_,λf args m v m' h=>?_⟩
  ·simp only[Fq]at h;split at h<;>try (simp at h;done)
   rename_i fn hfn;split at h<;>try (simp at h;done)
   rename_i c hc;intro ι w args' hr hf hargs;have hlen:=hargs.length
   have ht0:BV ι (max args.length fn.ntmps) (AA (max args.length fn.ntmps) (CM args)) {tmps:=args'.toArray++Array.replicate (fn.ntmps - args'.toArray.size) undef,defers:= []}:=by
    refine⟨by simp;omega,λd=>?_⟩;rw[FK,PV];cases hd:args[d]? with
    |some v=>
     obtain⟨y,hy,hry⟩:=hargs.get hd
     have hlt:d<args'.length:=by
      rcases Nat.lt_or_ge d args'.length with h1|h1
      ·exact h1
      ·rw[List.getElem?_eq_none h1]at hy;cases hy
     have:(args'.toArray++Array.replicate (fn.ntmps - args'.toArray.size) undef).getD d undef=y:=by
      rw[Array.getD_eq_getD_getElem?,Array.getElem?_append_left (by simpa using hlt),List.getElem?_toArray,hy];rfl
     rw[this,if_pos (by omega)];exact hry
    |none=>
     have hge:args.length<=d:=List.getElem?_eq_none_iff.1 hd
     have:(args'.toArray++Array.replicate (fn.ntmps - args'.toArray.size) undef).getD d undef=undef:=by
      rw[Array.getD_eq_getD_getElem?,Array.getElem?_append_right (by simp;omega),Array.getElem?_replicate];split<;>rfl
     rw[this];split
     ·exact AV.undef _
     ·exact AV.undef _
   have fin:∀(e:Ex) (t':AE) (m₁:Mem),AH P K G cf (A6 P K G cf (max args.length fn.ntmps)) (max args.length fn.ntmps) k c (AA (max args.length fn.ntmps) (CM args)) m=some (e,t',m₁)->(e= .normal\/e= .ret)->
     (match DM P t' m₁ fn.results.toList with|some vs=>some (FT vs,m₁)|none=>none)=some (v,m')->
     Calls P f args'.toArray w λe w'=>∃v' ι',e= .returned v'/\AV ι' v v'/\Rel B0 G ι' m' w'/\Dd ι ι' m m' w w':=by
    intro e t' m₁ hcode he hres;split at hres<;>simp at hres;rename_i vs hvs;obtain⟨rfl,rfl⟩:=hres;refine calls_of_wp hfn hc (Gv hK ih (Ha Br hK ih hg) c _ _ _ _ _ hcode ι w _ _ hr ht0 hf λa' w' ha=>?_);obtain⟨ι',g1,g2,g3,g4⟩:=ha;obtain⟨v',q1,q2⟩:=Fo (P:=P) g2 g1 hvs;rcases he with rfl|rfl
    ·exact⟨g4,v',q1,v',ι',rfl,q2,g2,g3⟩
    ·exact⟨g4,v',q1,v',ι',rfl,q2,g2,g3⟩
   simp only[Wg]at h;split at h<;>try (simp at h;done)
   ·rename_i t' m₁ hcode;exact fin _ _ _ hcode (.inl rfl) h
   ·rename_i t' m₁ hcode;exact fin _ _ _ hcode (.inr rfl) h
  ·simp only[Fq]at h;split at h<;>try (simp at h;done)
   rename_i fn hfn;split at h<;>try (simp at h;done)
   rename_i c hc;exact⟨fn,hfn,by simp[hc],FZ f fn hfn (by simp[hc])⟩
theorem Qp(Br:P.follows .mixedOrders=true)(hK:Plain P K)(FZ:O2 P){o:DT}(ho:CT P B0 G o)(hg:Bc o):∀(k:Nat),CT P B0 G (AL P K G o k)
 |0=>⟨λf args m v m' h=>by simp[AL]at h,λf args m v m' h=>by simp[AL]at h,λf args m v m' h=>by simp[AL]at h⟩
 |k+1=>by
  have ih:=Qo Br hK FZ (Qp Br hK FZ ho hg k) (KT hg k) k;refine⟨λf args m v m' h=>?_,λf args m v m' h=>?_,λf args m v m' h=>?_⟩
  all_goals
   simp only[AL]at h;have h:=Mc h;split at h
  ·rename_i r hr;simp at h;subst h;exact ho.size _ _ _ _ _ hr
  ·exact ih.size _ _ _ _ _ h
  ·rename_i r hr;simp at h;subst h;exact ho.ok _ _ _ _ _ hr
  ·exact ih.ok _ _ _ _ _ h
  ·rename_i r hr;simp at h;subst h;exact ho.body _ _ _ _ _ hr
  ·exact ih.body _ _ _ _ _ h
end
def EC:Code->List Code
 | .seq a b=>EC a++EC b
 | .cond _ a b=>EC a++EC b
 | .block _ c=>EC c
 | .loop c=>c::EC c
 |_=> []
def AN(fn:Func):Code:=match fn.body with|some c=>c|none=> .skip
def BW(fn:Func)(j:Nat):Code:=match(EC (AN fn))[j]? with|some c=>c|none=> .skip
namespace Y
variable{α:Type}
def onNat(i:Int)(q:Nat->Option α):Option α:=Int.rec (motive:=λ_=>Option α) q (λ_=>none) i
def cfOf(df:FQ):CF α:=λf a m q=>Eb (df f a m) q
def lpOf(P:Program)(K:TypeId->Bool)(G:Nat)(df:FQ)(n:Nat):LK α:=λ_ c k t m q=>onE (B2 (AH P K G df (A6 P K G df n) n k c) k t m) q
def unc(l:List Value)(q:Value->List Value->Option α)(d:Option α):Option α:=List.rec (motive:=λ_=>Option α) d (λa l _=>q a l) l
def dp(P:Program)(ts:List TypeId):List Value->(List Value->Option α)->Option α:=
 List.rec (motive:=λ_=>List Value->(List Value->Option α)->Option α) (λcs q=>unc cs (λ_ _=>none) (q []))
  (λt _ ih cs q=>unc cs (λv vs=>Sc P t v λv=>ih vs λl=>q (v::l)) none) ts
theorem Ud(P:Program):∀(ts:List TypeId) (cs:List Value) (q:List Value->Option α),dp P ts cs q=cond (nM P ts cs) (q cs) none
 | [],[],q=>rfl
 | [],_::_,q=>rfl
 |_::_,[],q=>rfl
 |t::ts,v::vs,q=>by
  have ih:=Ud P ts vs;show(Sc P t v λv=>dp P ts vs λl=>q (v::l))=_;simp only[ih,Hd,SX,nM];cases YV P t v<;>cases nM P ts vs<;>rfl
def nN(v:Value)(q:Value->Option α):Option α:=asBo v (λb=>bN b q) (q v)
theorem dq(v:Value)(q:Value->Option α):nN v q=q v:=by cases v<;>first|exact Hh _ _|rfl
def dt(P:Program)(f:FuncId)(v:Value)(q:Value->Option α):Option α:=
 match nL P f with
 | [t]=>Sc P t v λv=>nN v q
 | []=>q v
 |ts=>asTup v λcs=>dp P ts cs.toList λl=>q (.tuple ⟨l⟩)
theorem du(P:Program)(f:FuncId)(v:Value)(q:Value->Option α):dt P f v q=cond (IP P f v) (q v) none:=by
 unfold dt IP
 split
 ·rw[Hd];simp only[SX,dq];cases YV P _ v<;>rfl
 ·rfl
 ·cases v<;>try rfl
  rename_i cs;show dp P _ cs.toList _=_;rw[Ud]
def cfT(P:Program)(cf:CF α):CF α:=λf a m q=>cf f a m λv m'=>dt P f v λv=>q v m'
theorem jr(P:Program)(df:FQ)(h:∀f a m v m',df f a m=some (v,m')->IP P f v=true)(f:FuncId)(a:List Value)(m:Mem)(q:Value->Mem->Option α):cfT P (cfOf df) f a m q=Eb (df f a m) q:=by
 unfold cfT cfOf
 cases hd:df f a m with
 |none=>rfl
 |some p=>
  obtain⟨v,m'⟩:=p;show dt P f v (λv=>q v m')=_;rw[du,h f a m v m' hd];rfl
def retF(P:Program)(fn:Func)(q:Value->Mem->Option α):ExK α:=λe t' m'=>
 Ex.rec (motive:=λ_=>Option α) (MS fn.results.toList P t' m' λvs=>q (FT vs) m') (λ_=>none) (MS fn.results.toList P t' m' λvs=>q (FT vs) m') e
def Typed(P:Program)(df:FQ):Prop:=∀f a m v m',df f a m=some (v,m')->IP P f v=true
theorem callN_typed(P:Program)(K:TypeId->Bool)(G:Nat)(o:DT):∀k,Typed P (AL P K G o k)
 |0=>λf a m v m' h=>by cases h
 |k+1=>λf a m v m' h=>by
  simp only[AL]at h
  revert h
  generalize (match o f a m with|some r=>some r|none=>Fq P K G (AL P K G o k) k f a m)=r;intro h;cases r with
  |none=>cases h
  |some p=>
   obtain⟨v0,m0⟩:=p;simp only[OE]at h;cases hk:IP P f v0<;>rw[hk]at h<;>simp at h;rw[←h.1];exact hk
theorem Ue(P:Program)(K:TypeId->Bool)(G:Nat)(df:FQ)(hdf:Typed P df)(n k:Nat)(c:Code)(t:AE)(m:Mem)(q:ExK α):
  onE (AH P K G df (A6 P K G df n) n k c t m) q=codeF c P K G (cfT P (cfOf df)) (lpOf P K G df n) n k t m q:=
 (codeF_eq P K G (cfT P (cfOf df)) df (λf a m q=>jr P df hdf f a m q) (lpOf P K G df n) n k (λ_ _ _ _ _ _=>rfl) c t m q).symm
theorem body_eq{P:Program}{K:TypeId->Bool}{G:Nat}{df:FQ}(hdf:Typed P df){k:Nat}{f:FuncId}{fn:Func}{c:Code}(n:Nat)(hf:P.funcs[f]?=some fn)(hc:fn.body=some c)(args:List Value)(hn:max args.length fn.ntmps=n)(m:Mem):
  Fq P K G df k f args m=codeF c P K G (cfT P (cfOf df)) (lpOf P K G df n) n k (AA n (CM args)) m (retF P fn λv m=>some (v,m)):=by
 rw[←Ue P K G df hdf,Fq,hf]
 simp only[hc,hn]
 cases AH P K G df (A6 P K G df n) n k c (AA n (CM args)) m with
 |none=>rfl
 |some r=>
  obtain⟨e,t,m'⟩:=r;cases e with
  |normal=>
   show _=MS fn.results.toList P t m' λvs=>some (FT vs,m');rw[IC];simp only[Wg];cases DM P t m' fn.results.toList<;>rfl
  |exit id=>rfl
  |ret=>
   show _=MS fn.results.toList P t m' λvs=>some (FT vs,m');rw[IC];simp only[Wg];cases DM P t m' fn.results.toList<;>rfl
def q0:ExK (Ex×AE×Mem):=λe t m=>some (e,t,m)
theorem step_eq(P:Program)(K:TypeId->Bool)(G:Nat){df:FQ}(hdf:Typed P df)(n k:Nat)(c:Code)(t:AE)(m:Mem):
  AH P K G df (A6 P K G df n) n k c t m=codeF c P K G (cfT P (cfOf df)) (lpOf P K G df n) n k t m q0:=by
 rw[←Ue P K G df hdf]
 cases AH P K G df (A6 P K G df n) n k c t m with
 |none=>rfl
 |some r=>rfl
def loopC(c:Code)(j:Nat):Code:=match(EC c)[j]? with|some c=>c|none=> .skip
def kont(P:Program)(K:TypeId->Bool)(G:Nat)(cf:CF α)(L:LK α)(n k:Nat):Code->Nat->ExK α->ExK α
 | .seq a b,j,q=>cond (Nat.blt j (EC a).length) (kont P K G cf L n k a j λe t m=>Ex.rec (motive:=λ_=>Option α) (codeF b P K G cf L n k t m q) (λid=>q (.exit id) t m) (q .ret t m) e) (kont P K G cf L n k b (j - (EC a).length) q)
 | .cond _ a b,j,q=>cond (Nat.blt j (EC a).length) (kont P K G cf L n k a j q) (kont P K G cf L n k b (j - (EC a).length) q)
 | .block id c,j,q=>kont P K G cf L n k c j λe t m=>Ex.rec (motive:=λ_=>Option α) (q .normal t m) (λid'=>Bool.rec (motive:=λ_=>Option α) (q (.exit id') t m) (q .normal t m) (Nat.beq id' id)) (q .ret t m) e
 |_,_,q=>q
theorem lpOf_eq(P:Program)(K:TypeId->Bool)(G:Nat)(df:FQ)(n:Nat)(b:AE->Mem->ExK α->Option α)(c:Code)(k:Nat)(t:AE)(m:Mem)(q:ExK α):lpOf P K G df n b c k t m q=onE (B2 (AH P K G df (A6 P K G df n) n k c) k t m) q:=rfl
theorem loopC_body(f:Func)(j:Nat):loopC (AN f) j=BW f j:=rfl
theorem onE_some(e:Ex)(t:AE)(m:Mem)(q:ExK α):onE (some (e,t,m)) q=q e t m:=rfl
end Y
end
end Go.DI
namespace Go.DI
open Go.RowKit Go.ChangeShapes Go.WideShapes
def m0:Mem:=⟨λ_=> .none, .nil,0⟩
def X1(l:List TypeId)(t:TypeId):Bool:=l.any λu=>Nat.beq u t
theorem Ps{P:Program}{l:List TypeId}(h:(l.all λt=>not (P.stoodInHeld t) && not (P.eqGuardType P.depth t))=true):Plain P (X1 l):=by
 intro t ht
 simp only[X1,List.any_eq_true]at ht
 obtain⟨u,hu,hut⟩:=ht
 obtain rfl:=Nat.eq_of_beq_eq_true hut
 have:=List.all_eq_true.1 h u hu
 simp only[Bool.and_eq_true,Bool.not_eq_true']at this
 exact this
theorem bS{P:Program}(h:(P.funcs.toList.all fun fn=>fn.body.isNone||not (fn.name== "runtime.NumGoroutine"))=true):O2 P:=by
 intro f fn hf hb
 have hm:fn∈P.funcs.toList:=by
  have:P.funcs.toList[f]?=some fn:=by simpa using hf
  exact List.mem_of_getElem? this
 have:=List.all_eq_true.1 h fn hm
 rw[hb]at this
 simpa using this
end Go.DI
namespace Go.DI
open Go.RowKit
end Go.DI
namespace Go.DI
def Ren.sub(ι:Ren)(ρ:Nat->Nat)(k:Nat->Bool):Ren:=λi=>if k i=true then ι (ρ i)else none
def PK(ρ:Nat->Nat)(k:Nat->Bool)(vs v:Value):Prop:=∀(ι:Ren) (v':Value),AV ι v v'->AV (ι.sub ρ k) vs v'
def Q8(ρ:Nat->Nat)(vs v:Value):Prop:=∀(ι κ:Ren) (v':Value),(∀i L,ι i=some L->κ (ρ i)=some L)->AV ι vs v'->AV κ v v'
structure PL(ρ:Nat->Nat)(k:Nat->Bool)(bs b:BI):Prop where
 live:bs.live->b.live
 own:bs.own=true->b.own=true
 rel:∀(B0:Nat) (ι:Ren) (L:Loc) (w:World),Bd B0 ι b L w->Bd B0 (ι.sub ρ k) bs L w
structure S6(ρ:Nat->Nat)(bs b:BI):Prop where
 live:b.live->bs.live
 own:b.own=true->bs.own=true
 rel:∀(B0:Nat) (ι κ:Ren) (L:Loc) (w:World),(∀i L,ι i=some L->κ (ρ i)=some L)->Bd B0 ι bs L w->Bd B0 κ b L w
inductive Gf(ρ:Nat->Nat)(k:Nat->Bool):List Value->List Value->Prop where
 |nil:Gf ρ k [] []
 |cons {x y:Value} {l l':List Value}:PK ρ k x y->Gf ρ k l l'->Gf ρ k (x::l) (y::l')
theorem Gf.rel{ρ:Nat->Nat}{k:Nat->Bool}{ι:Ren}:∀{l l' l'':List Value},Gf ρ k l l'->B7 ι l' l''->B7 (ι.sub ρ k) l l''
 |_,_,_, .nil,h=>by cases h;exact .nil
 |_,_,_, .cons h t,g=>by
  cases g with
  |cons g0 gt=>exact .cons (h _ _ g0) (t.rel gt)
theorem PM{x:BI}(h:x.own=true):x.live:=by cases x<;>first|trivial|simp[BI.own]at h
structure Local(ρ:Nat->Nat)(A:Nat->Bool)(ms ms' M M':Mem):Prop where
 sees:∀i,A i=true->i<ms.size
 grw:Dx ms ms'
 top:ms.top
 top':M'.top
 old:∀i,A i=true->ρ i<M.size
 inj:∀i j,A i=true->A j=true->(ms.get i).live->(ms.get j).live->ρ i=ρ j->i=j
 new:∀i,ms.size<=i->i<ms'.size->ρ i=M.size+(i - ms.size)
 size:M'.size=M.size+(ms'.size - ms.size)
 sim:∀i,A i=true->PL ρ A (ms.get i) (M.get (ρ i))
 emb:∀i,i<ms'.size->(A i=true\/ms.size<=i)->M'.get (ρ i)= .none\/S6 ρ (ms'.get i) (M'.get (ρ i))
 rest:∀b,b<M.size->(∀i,A i=true->ρ i≠b)->M'.get b=M.get b
theorem Yf{P:Program}{B0 G:Nat}(Gs:Nat){f:FuncId}{avs args:List Value}{vs v:Value}{ms ms' M M':Mem}{ρ:Nat->Nat}{A:Nat->Bool}(hG:∀g,g<Gs->g<G/\A g=true/\ρ g=g)(run:Dr P B0 Gs f avs ms vs ms')(h:Local ρ A ms ms' M M')
  (ha:Gf ρ A avs args) (hv:Q8 ρ vs v):Dr P B0 G f args M v M':=by
 intro ι w args' hr hf hargs
 have hms:=h.grw.size
 have hrs:Rel B0 Gs (ι.sub ρ A) ms w:=by
  refine⟨λb L hb hL=>?_,λb₁ b₂ L₁ L₂ h1 h2 e1 e2 l1 l2 g0 e=>?_,hr.floor,λg hg=>?_,λb hb=>h.top b hb⟩
  ·simp only[Ren.sub]at hL;split at hL
   ·rename_i hb;exact(h.sim b hb).rel _ _ _ _ (hr.blk _ _ (h.old b hb) hL)
   ·simp at hL
  ·simp only[Ren.sub]at e1 e2;split at e1
   ·rename_i h1;split at e2
    ·rename_i h2;exact h.inj _ _ h1 h2 l1 l2 (hr.inj _ _ _ _ (h.old _ h1) (h.old _ h2) e1 e2 ((h.sim _ h1).live l1) ((h.sim _ h2).live l2) g0 e)
    ·simp at e2
   ·simp at e1
  ·obtain⟨q1,q2,q3⟩:=hG g hg;obtain⟨L,p1,p2⟩:=hr.glob g q1;exact⟨L,by simp only[Ren.sub,q2,if_true,q3];exact p1,p2⟩
 refine(run _ w args' hrs (λb h1 _=>by simp only[Ren.sub];rw[if_neg (λg=>by have:=h.sees b g;omega)]) (ha.rel hargs)).mono ?_
 rintro e w' ⟨v',ι₂,he,hv',hr',hs⟩
 let κ:Ren:=λb=>if b<M.size then ι b else if b<M'.size then ι₂ (ms.size+(b - M.size))else ι b
 have hκold:∀b,b<M.size->κ b=ι b:=λb hb=>by simp only[κ,hb,if_true]
 have hκnew:∀i,ms.size<=i->i<ms'.size->κ (ρ i)=ι₂ i:=λi h1 h2=>by
  have e:=h.new i h1 h2;have e2:=h.size;simp only[κ];rw[if_neg (by omega),if_pos (by omega),e];congr 1;omega
 have hι₂old:∀i,A i=true->ι₂ i=ι (ρ i):=λi hi=>by
  rw[hs.out i (.inl (h.sees i hi))];simp only[Ren.sub,hi,if_true]
 have hι₂none:∀i L,i<ms.size->ι₂ i=some L->A i=true:=λi L hi hL=>by
  rw[hs.out i (.inl hi)]at hL;simp only[Ren.sub]at hL;split at hL
  ·assumption
  ·simp at hL
 have hle:ι.le κ:=λb L hL=>by
  simp only[κ];split
  ·exact hL
  ·split
   ·have:=hf b (by omega) (by omega);rw[this]at hL;cases hL
   ·exact hL
 have hmap:∀i L,ι₂ i=some L->κ (ρ i)=some L:=λi L hL=>by
  rcases Nat.lt_or_ge i ms.size with h0|h1
  ·have h1:=hι₂none i L h0 hL;rw[hκold _ (h.old i h1),←hι₂old i h1];exact hL
  ·rcases Nat.lt_or_ge i ms'.size with h2|h2
   ·rw[hκnew i h1 h2];exact hL
   ·have:=hs.out i (.inr h2);rw[this]at hL;simp only[Ren.sub]at hL;rw[if_neg (λg=>by have:=h.sees i g;have:=h.grw.size;omega)]at hL;cases hL
 have cases3:∀b L,b<M'.size->κ b=some L->(∃i,A i=true/\ρ i=b/\ι₂ i=some L/\ι b=some L)\/(b<M.size/\(∀i,A i=true->ρ i≠b)/\ι b=some L)\/(∃i,ms.size<=i/\i<ms'.size/\ρ i=b/\ι₂ i=some L):=by
  intro b L hb hL;rcases Nat.lt_or_ge b M.size with h1|h1
  ·rw[hκold b h1]at hL;by_cases hx:∃i,A i=true/\ρ i=b
   ·obtain⟨i,hi,rfl⟩:=hx;exact .inl ⟨i,hi,rfl,by rw[hι₂old i hi];exact hL,hL⟩
   ·exact .inr (.inl ⟨h1,λi hi e=>hx ⟨i,hi,e⟩,hL⟩)
  ·have e2:=h.size;have hi:ms.size+(b - M.size)<ms'.size:=by omega
   have e3:=h.new (ms.size+(b - M.size)) (by omega) hi;have e4:ρ (ms.size+(b - M.size))=b:=by omega
   have:=hκnew (ms.size+(b - M.size)) (by omega) hi;rw[e4,hL]at this;exact .inr (.inr ⟨_,by omega,hi,e4,this.symm⟩)
 have hframe:∀B,B<w.heap.size->(∀b L,b<M.size->ι b=some L->(M.get b).own=true->L.block≠B)->w'.heap[B]?=w.heap[B]?:=by
  intro B hB hno;refine hs.frame B hB λi L hi hL ho=>?_;simp only[Ren.sub]at hL;split at hL
  ·rename_i hi;exact hno _ _ (h.old i hi) hL ((h.sim i hi).own ho)
  ·simp at hL
 refine⟨v',κ,he,hv _ _ _ hmap hv',⟨λb L hb hL=>?_,λb₁ b₂ L₁ L₂ h1 h2 e1 e2 l1 l2 g0 e=>?_,hr'.floor,λg hg=>?_,h.top'⟩,
  ⟨hle,λb hb=>?_,hs.os,hs.output,hs.tape,hs.hsize,hframe,λb L h1 h2 hL=>?_,by have:=h.size;omega,λb hb ho=>?_⟩⟩
 ·rcases cases3 b L hb hL with⟨i,hi,rfl,h2,h3⟩|⟨h1,h2,h3⟩|⟨i,hi,hi',rfl,h2⟩
  ·have hi0:=h.sees i hi;rcases h.emb i (by omega) (.inl hi)with g|g
   ·rw[g];trivial
   ·exact g.rel _ _ _ _ _ hmap (hr'.blk _ _ (by omega) h2)
  ·rw[h.rest b h1 h2];have hb0:=hr.blk b L h1 h3;by_cases hl:(M.get b).live
   ·refine Bd.mono hle (hs.frame _ (hr.old _ _ h3 hl) λi L' q1 q2 q3 q4=>?_) hb0;simp only[Ren.sub]at q2;split at q2
    ·rename_i q1;exact h2 i q1 (hr.inj _ _ _ _ (h.old i q1) h1 q2 h3 (PM ((h.sim i q1).own q3)) hl ((hr.blk _ _ (h.old i q1) q2).own_floor ((h.sim i q1).own q3)) q4)
    ·simp at q2
   ·cases hg:M.get b with
    |none=>trivial
    |cells=>rw[hg]at hl;exact absurd trivial hl
    |map=>rw[hg]at hl;exact absurd trivial hl
    |siter=>rw[hg]at hl;exact absurd trivial hl
  ·rcases h.emb i hi' (.inr hi)with g|g
   ·rw[g];trivial
   ·exact g.rel _ _ _ _ _ hmap (hr'.blk _ _ hi' h2)
 ·
  have key:∀b,M'.get b≠ .none->∀i,i<ms'.size->(A i=true\/ms.size<=i)->ρ i=b->(ms'.get i).live:=λb hb i hi hA e=>by
   rcases h.emb i hi hA with g|g
   ·rw[e]at g;exact absurd g hb
   ·refine g.live ?_;rw[e];cases hg:M'.get b with
    |none=>exact absurd hg hb
    |cells=>trivial
    |map=>trivial
    |siter=>trivial
  have ne1:M'.get b₁≠ .none:=λg=>by rw[g]at l1;exact l1
  have ne2:M'.get b₂≠ .none:=λg=>by rw[g]at l2;exact l2
  have mixed:∀b c L L',M'.get b≠ .none->b<M'.size->κ b=some L->c<M.size->(∀i,A i=true->ρ i≠c)->ι c=some L'->(M'.get c).live->B0<=L.block->L.block=L'.block->
    (∃i,i<ms'.size/\(A i=true\/ms.size<=i)/\ρ i=b/\ι₂ i=some L)->False:=by
   intro b c L L' nb hb hL hc hno hLc lc g0 e ⟨i,hi,hA,hib,hiL⟩;have lc':(M.get c).live:=by rw[←h.rest c hc hno];exact lc
   rcases Nat.lt_or_ge i ms.size with h0|h1
   ·have h1:=hι₂none i L h0 hiL;have g1:=h.grw.live i h0 (key b nb i hi hA hib);have g2:=(h.sim i h1).live g1;have g3:ι (ρ i)=some L:=by rw[←hι₂old i h1];exact hiL
    exact hno i h1 (hr.inj _ _ _ _ (h.old i h1) hc g3 hLc g2 lc' g0 e)
   ·rcases hs.new i L h1 hi hiL with g|⟨b0,L0,g1,g2,g3,g4⟩
    ·have:=hr.old c L' hLc lc';omega
    ·simp only[Ren.sub]at g2;split at g2
     ·rename_i g1;exact hno b0 g1 (hr.inj _ _ _ _ (h.old b0 g1) hc g2 hLc (PM ((h.sim b0 g1).own g3)) lc' ((hr.blk _ _ (h.old b0 g1) g2).own_floor ((h.sim b0 g1).own g3)) (by omega))
     ·simp at g2
  have known:∀b L,b<M'.size->κ b=some L->(∃i,i<ms'.size/\(A i=true\/ms.size<=i)/\ρ i=b/\ι₂ i=some L)\/(b<M.size/\(∀i,A i=true->ρ i≠b)/\ι b=some L):=by
   intro b L hb hL;rcases cases3 b L hb hL with⟨i,hi,g1,g2,_⟩|g|⟨i,hi,hi',g1,g2⟩
   ·exact .inl ⟨i,by have:=h.sees i hi;omega, .inl hi,g1,g2⟩
   ·exact .inr g
   ·exact .inl ⟨i,hi', .inr hi,g1,g2⟩
  rcases known b₁ L₁ h1 e1 with k1|k1
  ·rcases known b₂ L₂ h2 e2 with k2|k2
   ·obtain⟨i,hi,hA,q1,q2⟩:=k1;obtain⟨j,hj,hB,r1,r2⟩:=k2;have:=hr'.inj i j _ _ hi hj q2 r2 (key b₁ ne1 i hi hA q1) (key b₂ ne2 j hj hB r1) g0 e;rw[←q1,←r1,this]
   ·exact(mixed b₁ b₂ L₁ L₂ ne1 h1 e1 k2.1 k2.2.1 k2.2.2 l2 g0 e k1).elim
  ·rcases known b₂ L₂ h2 e2 with k2|k2
   ·exact(mixed b₂ b₁ L₂ L₁ ne2 h2 e2 k1.1 k1.2.1 k1.2.2 l1 (Nat.le_trans g0 (Nat.le_of_eq e)) e.symm k2).elim
   ·refine hr.inj _ _ _ _ k1.1 k2.1 k1.2.2 k2.2.2 ?_ ?_ g0 e
    ·rw[←h.rest _ k1.1 k1.2.1];exact l1
    ·rw[←h.rest _ k2.1 k2.2.1];exact l2
 ·obtain⟨L,g1,g2⟩:=hr.glob g hg;exact⟨L,hle _ _ g1,g2⟩
 ·have e2:=h.size;rcases hb with hb|hb
  ·exact hκold b hb
  ·simp only[κ];rw[if_neg (by omega),if_neg (by omega)]
 ·rcases cases3 b L h2 hL with⟨i,hi,g1,_,_⟩|⟨g,_,_⟩|⟨i,hi,hi',g1,g2⟩
  ·have:=h.old i hi;omega
  ·omega
  ·rcases hs.new i L hi hi' g2 with g|⟨b0,L0,q1,q2,q3,q4⟩
   ·exact .inl g
   ·simp only[Ren.sub]at q2;split at q2
    ·rename_i q1;exact .inr ⟨ρ b0,L0,h.old b0 q1,q2,(h.sim b0 q1).own q3,q4⟩
    ·simp at q2
 ·by_cases hx:∃i,A i=true/\ρ i=b
  ·obtain⟨i,hi,rfl⟩:=hx;have hi0:=h.sees i hi;rcases h.emb i (by omega) (.inl hi)with g|g
   ·rw[g]at ho;simp[BI.own]at ho
   ·exact(h.sim i hi).own (hs.ownk i hi0 (g.own ho))
  ·rw[h.rest b hb (λi hi e=>hx ⟨i,hi,e⟩)]at ho;exact ho
end Go.DI
