/- CompileMore answers true: rules behind one that matches say nothing, for any table, other table, packet and port of the stated bulk. Conditions: those of the given row and its card (the variable insn.sizes is laid as its initialiser says; bulk at most 1048576). -/
import Derived.Test.YtgjflcgmieiafaaGreatDoorN01
import Derived.LoopN
import Derived.Scope
import Derived.Test.YtgjflcgmieiafaaGreatDoorN00
import Derived.ChangeSame
import Derived.Below
import Derived.KernelRfl
set_option linter.all false
set_option linter.unusedVariables false
set_option linter.unusedSimpArgs false
namespace Go.DI
section
variable{P:Program}{K:TypeId->Bool}{G B0 n:Nat}{ι:Ren}{m:Mem}{w:World}{t:AF}{a:Act}
theorem gZ{ι':Ren}{e:TypeId}{c c' rest:List Value}{T:Nat}(hc:Bb ι' c c')(hT:(c'++rest).length=T)(hf:B0<=w.heap.size):
  Bg B0 ι' (.cells true c) ⟨w.heap.size,0,T⟩ (w.alloc (.cells (c'++rest).toArray e)):=by
 refine⟨(c'++rest).toArray,e,(0,0),?_,by simpa using hT,?_,λi v hv=>?_,λ_=>⟨hf,λo _ h=>by simp at h⟩⟩
 ·show(w.heap.push _)[w.heap.size]?=_;simp
 ·have:=hc.length;simp only[List.length_append]at hT;simp only;omega
 ·obtain⟨y,hy,hr⟩:=hc.get hv;refine⟨y,?_,hr⟩;simp only[List.getElem?_toArray,Nat.zero_add];rw[List.getElem?_append_left]
  ·exact hy
  ·rcases Nat.lt_or_ge i c'.length with h1|h1
   ·exact h1
   ·rw[List.getElem?_eq_none h1]at hy;cases hy
theorem Mu(hr:Rel B0 G ι m w)(hn:ι m.size=none){b:Nat}{L:Loc}(hL:ι b=some L){cb:List Value}(hg:m.get b= .cells true cb){o' k:Nat}{old new new':List Value}(hnr:Bb ι new new')
  (hone:new.all one=true) (hol:old.length=k) (hfit:o'+k+new.length<=L.total)
  (hold:∀rc e fr,w.heap[L.block]?=some (.cells rc e fr)->∀(i:Nat) (v:Value),old[i]?=some v->∃v',rc[o'+i]?=some v'/\AZ ι v v'):
  ∃w',(storeCells ⟨L.block,o'+k,none⟩ new').run P w= .ok () w'/\Rel B0 G (λq=>if q=m.size then some ⟨L.block,o',L.total⟩else ι q) ((m.push (.cells true (old++new))).set b .none) w'/\
   EP ι (λq=>if q=m.size then some ⟨L.block,o',L.total⟩else ι q) m ((m.push (.cells true (old++new))).set b .none) w w':=by
 have hlt:=hr.get_lt (b:=b) (by rw[hg];simp)
 have hb:=hr.blk b L hlt hL
 rw[hg]at hb
 obtain⟨rc,e,fr,h1,h2,h3,h4,h5⟩:=hb
 have hlen:=hnr.length
 have hone':new'.all one=true:=by rw[←hnr.all λ_ _ h=>h.one];exact hone
 have hrun:=Fc (P:=P) L.block e fr new' (o'+k) 0 rc w h1 (by omega) (λj g1 g2=>(h5 rfl).2 j (by omega)) hone'
 have hle:ι.le (λq=>if q=m.size then some ⟨L.block,o',L.total⟩else ι q):=by
  intro q L' hq;have:q≠m.size:=by intro e;rw[e,hn]at hq;cases hq
  simp[this,hq]
 refine⟨_,hrun,Rel.inplace hr hn hL hlt (by rw[hg];rfl) ?_⟩
 refine⟨_,e,fr,by rw[D8 _ _ _ _ (HK h1)];simp;rfl,?_,?_,λi v hv=>?_,λ_=>h5 rfl⟩
 ·rw[List.size_toArray,Gk _ _ _ (by simp;omega)];simpa using h2
 ·simp only[List.length_append];omega
 ·simp only[List.getElem?_toArray,Nat.add_zero];rw[FE _ _ _ _ (by simp;omega)];rw[List.getElem?_append]at hv;split at hv
  ·rename_i hi;obtain⟨v',hv',hrv⟩:=hold rc e fr h1 i v hv;refine⟨v',?_,hrv.mono hle⟩;rw[if_neg (by omega)];simpa using hv'
  ·rename_i hi;obtain⟨v',hv',hrv⟩:=hnr.get hv;refine⟨v',?_,hrv.mono hle⟩
   have hi':i - old.length<new'.length:=by
    rcases Nat.lt_or_ge (i - old.length) new'.length with h6|h6
    ·exact h6
    ·rw[List.getElem?_eq_none h6]at hv';cases hv'
   rw[if_pos (by omega),←hv'];congr 1;omega
set_option maxHeartbeats 1000000 in
theorem T3(hr:Rel B0 G ι m w){tS tX ty:TypeId}{s s' x x' v:Value}(hs:AZ ι s s')(hx:AZ ι x x'){m':Mem}(hn:m.size<m'.size->ι m.size=none)(h:Bi P m tS tX s x=some (v,m')):
  ∃ι' v' w',(Builtin.append_ #[tS,tX] ty #[s',x']).run P w= .ok v' w'/\AZ ι' v v'/\Rel B0 G ι' m' w'/\EP ι ι' m m' w w':=by
 unfold Bi at h
 split at h<;>try (simp at h;done)
 rename_i e dX hX0 hu huX
 have hX:∀(k:IntKind),dX≠ .int k:=λk e1=>hX0 k e1
 split at h<;>try (simp at h;done)
 rename_i base sLen sCap size bytes k hsz hby hlen
 split at h<;>try (simp at h;done)
 rename_i hsz0
 split at h<;>try (simp at h;done)
 rename_i new hnew
 obtain⟨new',hf,hnr⟩:=Ic (P:=P) hr hx hnew hlen (Nat.le_refl _)
 have hlen':=RW (P:=P) (w:=w) hx hlen
 split at h
 ·rename_i hroom;split at h
  ·split at h<;>simp at h;rename_i hk0;obtain⟨rfl,rfl⟩:=h;cases hs;refine⟨ι,_,w,?_, .slc0 _ _,hr,EP.refl _ _ _⟩;rw[run_append_room hu huX hX hsz hlen' hroom hf]
  ·rename_i b off sp;split at h
   ·rename_i hk0;subst hk0;simp at h;obtain⟨rfl,rfl⟩:=h
    have hnil:new'= []:=by
     have h0:=hnr.length
     have:new= []:=by
      unfold Ca at hnew;split at hnew<;>try (simp at hnew;done)
      ·unfold DB at hnew;split at hnew<;>try (simp at hnew;done)
       split at hnew<;>simp at hnew;exact hnew
      ·simpa using hnew
      ·split at hnew<;>simp at hnew;exact hnew
     rw[this]at h0;exact List.eq_nil_of_length_eq_zero (by simpa using h0.symm)
    subst hnil;obtain⟨base',sCap',rfl,hcap⟩:=hs.len0;refine⟨ι, .slice base' (sLen+0) sCap',w,?_,by simpa using hs,hr,EP.refl _ _ _⟩;rw[run_append_room hu huX hX hsz hlen' (Nat.le_trans hroom hcap) hf];cases base'<;>simp[storeCells]
   ·rename_i hk0;split at h<;>simp at h;rename_i m₁ hstR;obtain⟨rfl,rfl⟩:=h;cases hs with
    |slc _ _ _ _ L hL=>
     obtain⟨w',h1,h2,h3⟩:=Ie (P:=P) hr hL hnr (IA hstR);refine⟨ι,_,w',?_, .slc _ _ _ _ _ hL,h2,h3⟩;rw[run_append_room hu huX hX hsz hlen' hroom hf];simp only[Addr.add_none,Nat.add_assoc];rw[h1];rfl
    |loose _ _ _ _ _ c' L hL hc htot=>
     simp[Ky]at hstR
    |loose0=>omega
    |empty=>omega
 ·rename_i hroom;split at h<;>try (simp at h;done)
  rename_i hcond;obtain⟨hb1,hb2,hb3,hz1⟩:=hcond;rw[Option.isSome_iff_exists]at hz1;obtain⟨zs,hzs⟩:=hz1;obtain⟨z,sz,hz,hs'',hzsz,_,_⟩:=J3 hzs;rw[hsz]at hs'';cases hs'';split at h<;>try (simp at h;done)
  rename_i old hold;split at h<;>try (simp at h;done)
  rename_i hall;obtain⟨hall,hol,hnl⟩:=hall;simp only[Bool.and_eq_true]at hall;obtain⟨base',sCap',rfl,hcap⟩:=hs.len0
  replace hn:=hn (by
   split at h
   ·split at h<;>try (simp at h;done)
    split at h<;>simp at h;rw[←h.2];simp
   ·simp at h;rw[←h.2];simp)
  have hrd:=hr.drew;obtain⟨old',hfo,hor⟩:=Ic (P:=P) hrd.1 hs hold (ln:=sLen) rfl (Nat.le_refl _);obtain⟨new'',hfd,hndr⟩:=Ic (P:=P) hrd.1 hx hnew hlen (Nat.le_refl _);have hol':=hor.length;have hnl':=hndr.length
  have realloc:¬sLen+k<=sCap'->∃ι' v' w',(Builtin.append_ #[tS,tX] ty #[.slice base' sLen sCap',x']).run P w= .ok v' w'/\AZ ι' (.slice (some ⟨m.size,0,some size⟩) (sLen+k) (sLen+k)) v'/\
    Rel B0 G ι' (m.push (.cells true (old++new))) w'/\EP ι ι' m (m.push (.cells true (old++new))) w w':=by
   intro hneed;obtain⟨cap',hcap',hrun⟩:=Mv (ty:=ty) hu huX hX hsz hby hz hzsz hlen' hneed hb1 hb2 hb3 hfo hfd
   have hle:ι.le (λq=>if q=m.size then some ⟨w.heap.size,0,cap'*size⟩else ι q):=by
    intro q L' hq;have:q≠m.size:=by intro e;rw[e,hn]at hq;cases hq
    simp[this,hq]
   have htot:((old'++new'')++(Builtin.zeroCells z.cells (cap' - (sLen+k))).toList).length=cap'*size:=by
    simp only[List.length_append,Array.length_toList,size_zeroCells,hzsz,←hol',←hnl',hol,hnl,←Nat.add_mul];congr 1;omega
   have hp:=Rel.push (k:=cap'*size) (x:= .cells true (old++new)) (o:= .cells ((old'++new'')++(Builtin.zeroCells z.cells (cap' - (sLen+k))).toList).toArray e) hrd.1 hn
    (gZ (Bb.mono hle (hor.append hndr)) htot hr.floor)
   refine⟨_,_,_,hrun,?_,hp.1,hrd.2.trans hp.2⟩;have:=AZ.loose (ι:=λq=>if q=m.size then some ⟨w.heap.size,0,cap'*size⟩else ι q) m.size 0 size (sLen+k) (sLen+k) cap' ⟨w.heap.size,0,cap'*size⟩ (by simp) hcap' (by simp);simpa using this
  cases hs with
  |slc0=>
   simp at h;obtain⟨rfl,rfl⟩:=h;exact realloc hroom
  |slc b off _ _ L hL=>
   simp at h;obtain⟨rfl,rfl⟩:=h;exact realloc hroom
  |loose b off e' _ _ _ L hL hc htot=>
   simp only at h;split at h<;>try (simp at h;done)
   rename_i he;subst he;split at h<;>simp at h;rename_i cb hg;obtain⟨rfl,rfl⟩:=h;have hlt:=hr.get_lt (b:=b) (by rw[hg];simp);by_cases hneed:sLen+k<=sCap'
   ·have hnb:(sLen+k)*e'<=sCap'*e':=Nat.mul_le_mul_right _ hneed;rw[Nat.add_mul]at hnb
    obtain⟨w',h1,h2,h3⟩:=Mu (P:=P) (o':=L.base+off) (k:=sLen*e') hr hn hL hg hnr hall.1 hol (by rw[hnl];omega) (λrc e₁ fr hrc i v hv=>by
     have hb:=hr.blk b L hlt hL;rw[hg]at hb;obtain⟨rc',e₂,fr',g1,g2,g3,g4,g5⟩:=hb;rw[hrc]at g1;cases g1;simp only[Ca,DB,hg]at hold;split at hold<;>simp at hold;rw[←hold,List.getElem?_take]at hv;split at hv
     ·rw[List.getElem?_drop]at hv;obtain⟨v',hv',hrv⟩:=g4 _ _ hv;exact⟨v',by rw[←hv'];congr 1;omega,hrv⟩
     ·simp at hv)
    refine⟨_, .slice (some ⟨L.block,L.base+off,none⟩) (sLen+k) sCap',w',?_,?_,h2,h3⟩
    ·rw[run_append_room hu huX hX hsz hlen' hneed hf];simp only[Addr.add_none];rw[h1];rfl
    ·have:=AZ.loose (ι:=λq=>if q=m.size then some ⟨L.block,L.base+off,L.total⟩else ι q) m.size 0 e' (sLen+k) (sLen+k) sCap' ⟨L.block,L.base+off,L.total⟩ (by simp) hneed (by simpa using htot);simpa using this
   ·obtain⟨ι',v',w',h1,h2,h3,h4⟩:=realloc hneed;have hk:=Rel.kill h3 (b:=b) (by simp;omega);exact⟨ι',v',w',h1,h2,hk.1,h4.trans hk.2⟩
  |loose0 b off e' o' _ L hL htot=>
   simp only at h;split at h<;>try (simp at h;done)
   rename_i he;subst he;split at h<;>simp at h;rename_i cb hg;obtain⟨rfl,rfl⟩:=h;have hlt:=hr.get_lt (b:=b) (by rw[hg];simp);by_cases hneed:0+k<=sCap'
   ·have hnb:(0+k)*e'<=sCap'*e':=Nat.mul_le_mul_right _ hneed;rw[Nat.zero_add]at hnb;have hold0:old= []:=List.eq_nil_of_length_eq_zero (by simpa using hol);subst hold0;obtain⟨w',h1,h2,h3⟩:=Mu (P:=P) (o':=o') (k:=0) (old:= []) hr hn hL hg hnr hall.1 rfl (by rw[hnl];omega) (λrc e₁ fr hrc i v hv=>by simp at hv);refine⟨_, .slice (some ⟨L.block,o',none⟩) (0+k) sCap',w',?_,?_,h2,h3⟩
    ·rw[run_append_room hu huX hX hsz hlen' hneed hf];simp only[Addr.add_none,Nat.zero_mul];rw[h1];rfl
    ·have:=AZ.loose (ι:=λq=>if q=m.size then some ⟨L.block,o',L.total⟩else ι q) m.size 0 e' (0+k) (0+k) sCap' ⟨L.block,o',L.total⟩ (by simp) hneed (by simpa using htot);simpa using this
   ·obtain⟨ι',v',w',h1,h2,h3,h4⟩:=realloc hneed;have hk:=Rel.kill h3 (b:=b) (by simp;omega);exact⟨ι',v',w',h1,by simpa using h2,hk.1,h4.trans hk.2⟩
  |empty b off e' a=>
   simp only at h;split at h<;>try (simp at h;done)
   split at h<;>simp at h;rename_i cb hg;obtain⟨rfl,rfl⟩:=h;have hlt:=hr.get_lt (b:=b) (by rw[hg];simp);obtain⟨ι',v',w',h1,h2,h3,h4⟩:=realloc hroom;have hk:=Rel.kill h3 (b:=b) (by simp;omega);exact⟨ι',v',w',h1,by simpa using h2,hk.1,h4.trans hk.2⟩
theorem Zo(hr:Rel B0 G ι m w){tD tX ty:TypeId}{s s' x x' v:Value}(hs:AZ ι s s')(hx:AZ ι x x'){m':Mem}(h:Mw P m tD s x=some (v,m')):
  ∃v' w',(Builtin.copy_ #[tD,tX] ty #[s',x']).run P w= .ok v' w'/\AZ ι v v'/\Rel B0 G ι m' w'/\EP ι ι m m' w w':=by
 unfold Mw at h
 split at h<;>try (simp at h;done)
 rename_i e hu
 split at h<;>try (simp at h;done)
 rename_i base dLen cp size sl hsz hlen
 split at h<;>try (simp at h;done)
 rename_i hsz0
 split at h<;>try (simp at h;done)
 rename_i new hnew
 obtain⟨new',hf,hnr⟩:=Ic (P:=P) hr hx hnew hlen (Nat.min_le_left _ _)
 have hlen':=RW (P:=P) (w:=w) hx hlen
 obtain⟨base',sCap',rfl,hcap⟩:=hs.len0
 have hrun:(Builtin.copy_ #[tD,tX] ty #[.slice base' dLen sCap',x']).run P w=match base' with
   |some a=>((storeCells a new').run P w).andThen λ_ w'=> .ok (.int .i64 (Nat.min sl dLen:Nat)) w'
   |none=> .ok (.int .i64 (Nat.min sl dLen:Nat)) w:=by
  cases base'<;>simp[Builtin.copy_,AY hu,hlen',BD hsz,hf,goInt]
 split at h
 ·simp at h;obtain⟨rfl,rfl⟩:=h;cases hs;exact⟨_,w,hrun, .int _ _,hr,EP.refl _ _ _⟩
 ·rename_i b off sp;split at h
  ·rename_i h0;simp at h;obtain⟨rfl,rfl⟩:=h
   have hnil:new'= []:=by
    have hl0:=hnr.length
    have:new= []:=by
     rw[h0]at hnew;unfold Ca at hnew;split at hnew<;>try (simp at hnew;done)
     ·unfold DB at hnew;split at hnew<;>try (simp at hnew;done)
      split at hnew<;>simp at hnew;exact hnew
     ·simpa using hnew
     ·split at hnew<;>simp at hnew;exact hnew
    rw[this]at hl0;exact List.eq_nil_of_length_eq_zero (by simpa using hl0.symm)
   subst hnil;refine⟨_,w,?_, .int _ _,hr,EP.refl _ _ _⟩;rw[hrun];cases base'<;>simp[storeCells]
  ·rename_i h0;split at h<;>simp at h;rename_i m₁ hst;obtain⟨rfl,rfl⟩:=h;cases hs with
   |slc _ _ _ _ L hL=>
    obtain⟨w',h1,h2,h3⟩:=Ie (P:=P) hr hL hnr hst;exact⟨_,w',by rw[hrun];simp only[h1];rfl, .int _ _,h2,h3⟩
   |loose _ _ _ _ _ c' L hL hc htot=>
    obtain⟨w',h1,h2,h3⟩:=Ie (P:=P) hr hL hnr hst;exact⟨_,w',by rw[hrun];simp only[h1];rfl, .int _ _,h2,h3⟩
   |loose0=>exact absurd (Nat.min_zero _) h0
   |empty=>exact absurd (Nat.min_zero _) h0
theorem Mx{v:Value}{b:UInt8}(h:byteOf v=some b):∃n:Int,v= .int .u8 n/\b=UInt8.ofNat n.toNat:=by
 unfold byteOf at h
 split at h<;>simp at h
 exact⟨_,rfl,h.symm⟩
theorem IB:∀(c:List Value) (l:List UInt8),El c=some l->∀(s:ByteArray),(forIn c s λ(c:Value) (r:ByteArray)=>(match c with
   | .int .u8 n=>(pure (ForInStep.yield (r.push (UInt8.ofNat n.toNat))):Sem (ForInStep ByteArray))
   |_=>do
    stuck (α:=PUnit) "bytesToString: byte expected"
    pure (ForInStep.yield r))).run P w= .ok ⟨(s.data.toList++l).toArray⟩ w
 | [],l,h,s=>by simp[El]at h;subst h;simp
 |v::c,l,h,s=>by
  simp only[El]at h;split at h<;>try (simp at h;done)
  rename_i b hb;split at h<;>simp at h;rename_i r hr;subst h;obtain⟨n,rfl,rfl⟩:=Mx hb;rw[List.forIn_cons];simp only[Sem.run_bind,Sem.run_pure,Result.andThen_ok];rw[IB c r hr];congr 2;simp[ByteArray.push]
theorem Ld{c c':List Value}(h:Bb ι c c'):∀{l:List UInt8},El c=some l->El c'=some l:=by
 induction h with
 |nil=>intro l h;exact h
 |cons h0 t ih=>
  intro l h;simp only[El]at h ⊢;split at h<;>try (simp at h;done)
  rename_i b hb;split at h<;>simp at h;rename_i r hr;obtain⟨n,rfl,rfl⟩:=Mx hb;cases h0;simp only[byteOf,ih hr,h]
theorem RX(W:World)(o:Obj):(W.alloc o).heap[W.heap.size]?=some o:=by
 show(W.heap.push o)[W.heap.size]?=_
 simp
theorem Xb(W:World)(C:Array Value)(e:TypeId):(W.alloc (.cells C e)).shape? W.heap.size=some (e,C.size):=by
 simp only[World.shape?,RX]
theorem T4(W:World)(C:Array Value)(e:TypeId):(W.alloc (.cells C e)).freeze ⟨W.heap.size,C.size,none⟩ 1=W.alloc (.cells C e (C.size,C.size+1)):=by
 simp only[World.freeze,World.alloc]
 rw[if_neg (by decide)]
 congr 1
 apply Array.ext_getElem?
 intro j
 rw[Array.getElem?_modify]
 simp only[Array.getElem?_push]
 by_cases hj:W.heap.size=j
 ·subst hj;simp
 ·have:¬j=W.heap.size:=λh=>hj h.symm;simp[hj,this]
theorem Zp(hr:Rel B0 G ι m w){src dst:TypeId}{x x' v:Value}(hx:AZ ι x x'){m':Mem}(hn:m.size<m'.size->ι m.size=none)(h:My P m src dst x=some (v,m')):
  ∃ι' v' w',(convert src dst x').run P w= .ok v' w'/\AZ ι' v v'/\Rel B0 G ι' m' w'/\EP ι ι' m m' w w':=by
 unfold My at h
 split at h<;>try (simp at h;done)
 ·rename_i d k hs hd;split at h<;>simp at h;obtain⟨rfl,rfl⟩:=h;cases hx;exact⟨ι,_,w,by simp[convert,AY hs,AY hd,Conv.intToInt], .int _ _,hr,EP.refl _ _ _⟩
 ·rename_i hs hd;split at h<;>simp at h;obtain⟨rfl,rfl⟩:=h;cases hx;exact⟨ι,_,w,by simp[convert,AY hs,AY hd], .string _,hr,EP.refl _ _ _⟩
 ·rename_i e hs hd;split at h<;>simp at h;rename_i q hq;obtain⟨rfl,rfl⟩:=h;cases hx;replace hn:=hn (by simp);have hrd:=hr.drew;have hcap:q.size<=(Question.appendCap q.size 0 e).cut (w.tape w.drawn (.appendCap q.size 0 e)):=by simp[Question.cut]
  generalize hcp:(Question.appendCap q.size 0 e).cut (w.tape w.drawn (.appendCap q.size 0 e))=cp at hcap
  have hC:(q.data.map (λ(b:UInt8)=>Value.int .u8 (b.toNat:Int))++Array.replicate (cp - q.size) (Value.int .u8 0)).size=cp:=by
   simp only[Array.size_append,Array.size_map,Array.size_replicate];have:q.data.size=q.size:=rfl;omega
  have hlc:(q.data.toList.map λ(b:UInt8)=>Value.int .u8 (b.toNat:Int)).length=q.size:=by simp
  generalize hCC:(q.data.map (λ(b:UInt8)=>Value.int .u8 (b.toNat:Int))++Array.replicate (cp - q.size) (Value.int .u8 0))=C at hC;have hCl:C.toList=(q.data.toList.map λ(b:UInt8)=>Value.int .u8 (b.toNat:Int))++List.replicate (cp - q.size) (Value.int .u8 0):=by rw[←hCC];simp
  have hfz:=T4 w.drew C e
  have hp:=Rel.push (k:=cp) (x:= .cells true (q.data.toList.map λ(b:UInt8)=>Value.int .u8 (b.toNat:Int))) (o:= .cells C e (C.size,C.size+1)) hrd.1 hn
   ⟨C,e,(C.size,C.size+1),RX w.drew _,hC,by rw[hlc];simpa using hcap,λi v hv=>by
    refine⟨v,?_,?_⟩
    ·rw[Nat.zero_add,←Array.getElem?_toList,hCl,List.getElem?_append_left]
     ·exact hv
     ·rcases Nat.lt_or_ge i (q.data.toList.map λ(b:UInt8)=>Value.int .u8 (b.toNat:Int)).length with h1|h1
      ·exact h1
      ·rw[List.getElem?_eq_none h1]at hv;cases hv
    ·have:=List.mem_of_getElem? hv;obtain⟨u,_,rfl⟩:=List.mem_map.1 this;exact .int _ _,λ_=>⟨hr.floor,λo ho h=>by simp only at ho h;omega⟩⟩
  refine⟨_, .slice (some ⟨w.drew.heap.size,0,none⟩) q.size cp,_,?_,?_,hp.1,hrd.2.trans hp.2⟩
  ·have e1:(Question.appendCap q.size 0 e).forced=false:=rfl;simp only[convert,Sem.run_bind,AY hs,AY hd,AY hq,Result.andThen_ok,Conv.stringToBytes,run_choose,e1,Bool.false_eq_true,if_false,hcp,World.drew_eq,hCC,Dq,markStringish,run_shape];have hsh:=Xb w.drew C e;simp only[hsh,run_freeze,hfz];rfl
  ·have:=AZ.loose (ι:=λb=>if b=m.size then some ⟨w.drew.heap.size,0,cp⟩else ι b) m.size 0 1 q.size q.size cp ⟨w.drew.heap.size,0,cp⟩ (by simp) hcap (by simp);simpa using this
 ·rename_i e hs hd;split at h<;>try (simp at h;done)
  rename_i he;split at h<;>try (simp at h;done)
  ·simp at h;obtain⟨rfl,rfl⟩:=h;cases hx;exact⟨ι,_,w,by simp[convert,AY hs,AY hd,AY he,Conv.bytesToString], .string _,hr,EP.refl _ _ _⟩
  ·rename_i b off sp n cp;split at h<;>try (simp at h;done)
   rename_i c hc;split at h<;>simp at h;rename_i l hl;obtain⟨rfl,rfl⟩:=h
   have key:∀(a:Addr) (c':List Value),(loadCells a n).run P w= .ok c'.toArray w->Bb ι c c'->∀cp',(convert src dst (.slice (some a) n cp')).run P w= .ok (.string ⟨l.toArray⟩) w:=by
    intro a c' hlc hcr cp';have:=IB (P:=P) (w:=w) c' l (Ld hcr hl) ByteArray.empty;simp only[convert,Sem.run_bind,AY hs,AY hd,AY he,Result.andThen_ok,Conv.bytesToString,hlc];rw[←Array.forIn_toList];have ht:c'.toArray.toList=c':=by simp
    rw[ht];have he2:(⟨(ByteArray.empty.data.toList++l).toArray⟩:ByteArray)=⟨l.toArray⟩:=rfl;rw[he2]at this
    first|rw[this];rfl|(simp only[this];rfl)|(erw [this];rfl)
   cases hx with
   |slc _ _ _ _ L hL=>
    obtain⟨c',h1,h2⟩:=GG (P:=P) hr hL hc;exact⟨ι,_,w,key _ _ h1 h2 _, .string _,hr,EP.refl _ _ _⟩
   |loose _ _ _ _ _ c₂ L hL hcc htot=>
    obtain⟨c',h1,h2⟩:=GG (P:=P) hr hL hc;exact⟨ι,_,w,key _ _ h1 h2 _, .string _,hr,EP.refl _ _ _⟩
   |loose0 _ _ _ o' c₂ L hL htot=>
    have:c= []:=by
     unfold DB at hc;split at hc<;>try (simp at hc;done)
     split at hc<;>simp at hc;exact hc
    subst this;exact⟨ι,_,w,key _ [] (by simp[loadCells,loadCellsFrom]) .nil _, .string _,hr,EP.refl _ _ _⟩
   |empty _ _ _ a=>
    have:c= []:=by
     unfold DB at hc;split at hc<;>try (simp at hc;done)
     split at hc<;>simp at hc;exact hc
    subst this;exact⟨ι,_,w,key _ [] (by simp[loadCells,loadCellsFrom]) .nil _, .string _,hr,EP.refl _ _ _⟩
theorem Zq(hr:Rel B0 G ι m w){src dst:TypeId}{x x' v:Value}(hx:AZ ι x x')(h:IC P m src dst x=some v):
  ∃v',(convert src dst x').run P w= .ok v' w/\AZ ι v v':=by
 unfold IC at h
 split at h<;>try (simp at h;done)
 ·rename_i d k hs hd;split at h<;>simp at h;subst h;cases hx;exact⟨_,by simp[convert,AY hs,AY hd,Conv.intToInt], .int _ _⟩
 ·rename_i hs hd;split at h<;>simp at h;subst h;cases hx;exact⟨_,by simp[convert,AY hs,AY hd], .string _⟩
 ·rename_i e hs hd;split at h<;>try (simp at h;done)
  rename_i he;split at h<;>try (simp at h;done)
  ·simp at h;subst h;cases hx;exact⟨_,by simp[convert,AY hs,AY hd,AY he,Conv.bytesToString], .string _⟩
  ·rename_i b off sp n cp;split at h<;>try (simp at h;done)
   rename_i c hc;split at h<;>simp at h;rename_i l hl;subst h
   have key:∀(a:Addr) (c':List Value),(loadCells a n).run P w= .ok c'.toArray w->Bb ι c c'->∀cp',(convert src dst (.slice (some a) n cp')).run P w= .ok (.string ⟨l.toArray⟩) w:=by
    intro a c' hlc hcr cp';have:=IB (P:=P) (w:=w) c' l (Ld hcr hl) ByteArray.empty;simp only[convert,Sem.run_bind,AY hs,AY hd,AY he,Result.andThen_ok,Conv.bytesToString,hlc];rw[←Array.forIn_toList];have ht:c'.toArray.toList=c':=by simp
    rw[ht];have he2:(⟨(ByteArray.empty.data.toList++l).toArray⟩:ByteArray)=⟨l.toArray⟩:=rfl;rw[he2]at this
    first|rw[this];rfl|(simp only[this];rfl)|(erw [this];rfl)
   cases hx with
   |slc _ _ _ _ L hL=>
    obtain⟨c',h1,h2⟩:=GG (P:=P) hr hL hc;exact⟨_,key _ _ h1 h2 _, .string _⟩
   |loose _ _ _ _ _ c₂ L hL hcc htot=>
    obtain⟨c',h1,h2⟩:=GG (P:=P) hr hL hc;exact⟨_,key _ _ h1 h2 _, .string _⟩
   |loose0 _ _ _ o' c₂ L hL htot=>
    have:c= []:=by
     unfold DB at hc;split at hc<;>try (simp at hc;done)
     split at hc<;>simp at hc;exact hc
    subst this;exact⟨_,key _ [] (by simp[loadCells,loadCellsFrom]) .nil _, .string _⟩
   |empty _ _ _ a=>
    have:c= []:=by
     unfold DB at hc;split at hc<;>try (simp at hc;done)
     split at hc<;>simp at hc;exact hc
    subst this;exact⟨_,key _ [] (by simp[loadCells,loadCellsFrom]) .nil _, .string _⟩
end
end Go.DI
namespace Go.DI
section
variable{P:Program}{K:TypeId->Bool}{G B0 n:Nat}{ι:Ren}{m:Mem}{w:World}{t:AF}{a:Act}
def FA(ι:Ren)(x y:Nat):Prop:=∀b,x<=b->b<y->ι b=none
theorem FA.sub{x y x' y':Nat}(h:FA ι x y)(h1:x<=x')(h2:y'<=y):FA ι x' y':=λb g1 g2=>h b (by omega) (by omega)
theorem FA.stp{ι':Ren}{m m':Mem}{w w':World}{x y:Nat}(h:FA ι x y)(s:EP ι ι' m m' w w')(h1:m'.size<=x):FA ι' x y:=λb g1 g2=>by
 rw[s.out b (.inr (by omega))]
 exact h b g1 g2
theorem Va:∀{l l':List Value} {k:IntKind} {x r:Int},Bb ι l l'->minD l x=some r->(l'.foldlM Builtin.min2 (.int k x)).run P w= .ok (.int k r) w
 | [],_,k,x,r,hl,h=>by cases hl;simp[minD]at h;subst h;simp
 |v::l,_,k,x,r,hl,h=>by
  cases hl with
  |cons h0 t0=>
   cases v<;>simp only[minD]at h<;>try (simp at h;done)
   cases h0;simp only[List.foldlM_cons,Sem.run_bind,Builtin.min2,Sem.run_pure,Result.andThen_ok];exact Va t0 h
theorem Vb:∀{l l':List Value} {k:IntKind} {x r:Int},Bb ι l l'->maxD l x=some r->(l'.foldlM Builtin.max2 (.int k x)).run P w= .ok (.int k r) w
 | [],_,k,x,r,hl,h=>by cases hl;simp[maxD]at h;subst h;simp
 |v::l,_,k,x,r,hl,h=>by
  cases hl with
  |cons h0 t0=>
   cases v<;>simp only[maxD]at h<;>try (simp at h;done)
   cases h0;simp only[List.foldlM_cons,Sem.run_bind,Builtin.max2,Sem.run_pure,Result.andThen_ok];exact Vb t0 h
theorem iB(hr:Rel B0 G ι m w){s ty:TypeId}{x x' v:Value}(hx:AZ ι x x')(h:Xf P m s x=some v):(Builtin.len_ #[s] ty #[x']).run P w= .ok v w/\AZ ι v v:=by
 unfold Xf at h
 split at h<;>try (simp at h;done)
 ·rename_i hu;split at h<;>simp at h;subst h;cases hx;exact⟨by simp[Builtin.len_,AY hu,goInt], .int _ _⟩
 ·rename_i hu;simp at h;subst h;refine⟨?_, .int _ _⟩;simp only[Builtin.len_,Sem.run_bind,AY hu,Result.andThen_ok,List.getElem?_toArray,List.getElem?_cons_zero];cases x'<;>simp[goInt]
 ·rename_i hu;split at h<;>simp at h;subst h;refine⟨?_, .int _ _⟩;cases hx<;>simp[Builtin.len_,AY hu,goInt]
 ·rename_i hu;split at h<;>try (simp at h;done)
  ·simp at h;subst h;cases hx;exact⟨by simp[Builtin.len_,AY hu,goInt], .int _ _⟩
  ·rename_i r;split at h<;>simp at h;rename_i own es c hg;subst h;have hlt:=hr.get_lt (b:=r) (by rw[hg];simp);cases hx with
   |map _ L hL=>
    have hb:=hr.blk r L hlt hL;rw[hg]at hb;obtain⟨res,h1,h2,h3⟩:=hb;have hgo:(getObj L.block).run P w= .ok (.map res c) w:=by simp[getObj,Sem.run,h1]
    have:=h2.length;exact⟨by simp[Builtin.len_,AY hu,goInt,hgo,this], .int _ _⟩
theorem R3(hK:Plain P K)(hr:Rel B0 G ι m w)(ht:Be ι n t a){o:Oper}{v:Value}(h:BV P K G t m o.op=some v):
  ∃v',(execOp a.eval o).run P w= .ok (.value v') w/\AZ ι v v':=by
 unfold BV at h
 split at h<;>try (simp at h;done)
 ·rename_i x ho;exact⟨_,by simp[execOp,ho],BZ hr ht h⟩
 ·rename_i x ho;exact⟨_,by simp[execOp,ho],BZ hr ht h⟩
 ·rename_i c x y ho;split at h<;>try (simp at h;done)
  ·rename_i hc;have:=(BZ hr ht hc).inv_bool;exact⟨_,by simp[execOp,ho,this,asBool],BZ hr ht h⟩
  ·rename_i hc;have:=(BZ hr ht hc).inv_bool;exact⟨_,by simp[execOp,ho,this,asBool],BZ hr ht h⟩
 ·rename_i ty x ho;split at h<;>try (simp at h;done)
  rename_i u hu;obtain⟨v',h1,h2⟩:=Rb (P:=P) hr (BZ hr ht hu) (Zt h);exact⟨v',by simp[execOp,ho,h1],h2⟩
 ·rename_i x ho;split at h<;>simp at h
  ·rename_i ad hx;subst h;have:=BZ hr ht hx;refine⟨a.eval x,?_,this⟩;simp only[execOp,ho]
   revert this
   cases a.eval x<;>intro this<;>cases this<;>rfl
  ·rename_i f fs cs hx;subst h;have:=BZ hr ht hx;obtain⟨a',b',e1,_,_⟩:=this.inv_func;rw[e1]at this;refine⟨_,?_,this⟩;simp[execOp,ho,e1]
 ·rename_i op ty x y yt ho;split at h<;>try (simp at h;done)
  rename_i u1 u2 h1 h2;obtain⟨g1,g2⟩:=aN (BZ hr ht h1) (BZ hr ht h2) h;have:=aO (w:=w) (o1:=x) (o2:=y) hK g1;refine⟨v,?_,g2⟩;simp only[execOp,ho];rw[Sem.run_bind,this];rfl
 ·rename_i op ty x ho;split at h<;>try (simp at h;done)
  rename_i u hu;obtain⟨g1,g2⟩:=nu (P:=P) (w:=w) (BZ hr ht hu) h;exact⟨v,by simp[execOp,ho,g1],g2⟩
 ·rename_i f fs cs ho;split at h<;>simp at h;rename_i l1 l2 h1 h2;subst h;refine⟨.func (.func f) (fs.map a.eval) (cs.map a.eval),by simp[execOp,ho,Instr.makeFunc],?_⟩;have g1:=Ig hr ht h1;have g2:=Ig hr ht h2;have e1:(fs.map a.eval).toList=fs.toList.map a.eval:=by simp
  have e2:(cs.map a.eval).toList=cs.toList.map a.eval:=by simp
  have k1:=Bb.arr (a:=l1.toArray) (a':=fs.map a.eval) (ι:=ι) (by rw[e1];exact g1);have k2:=Bb.arr (a:=l2.toArray) (a':=cs.map a.eval) (ι:=ι) (by rw[e2];exact g2);exact .func _ _ _ _ _ k1.1 k2.1 k1.2 k2.2
 ·rename_i s x f ho;split at h<;>try (simp at h;done)
  rename_i u hu;obtain⟨v',h1,h2⟩:=OP (P:=P) (w:=w) (BZ hr ht hu) h;exact⟨v',by simp[execOp,ho,h1],h2⟩
 ·rename_i s x f ho;split at h<;>try (simp at h;done)
  rename_i u hu;obtain⟨v',h1,h2⟩:=Xu (P:=P) (w:=w) (BZ hr ht hu) h;exact⟨v',by simp[execOp,ho,h1],h2⟩
 ·rename_i s x i ho;split at h<;>try (simp at h;done)
  rename_i u1 u2 h1 h2;obtain⟨v',g1,g2⟩:=OQ (P:=P) (w:=w) (BZ hr ht h1) h
  have hi:a.eval i=u2:=by
   have:=BZ hr ht h2;unfold E0 at h;split at h<;>try (simp at h;done)
   exact this.inv_int
  exact⟨v',by simp[execOp,ho,hi,g1],g2⟩
 ·rename_i s x i ho;split at h<;>try (simp at h;done)
  rename_i u1 u2 h1 h2;obtain⟨v',g1,g2⟩:=Xv (P:=P) (w:=w) (BZ hr ht h1) h
  have hi:a.eval i=u2:=by
   have:=BZ hr ht h2;unfold QA at h;split at h<;>try (simp at h;done)
   exact this.inv_int
  exact⟨v',by simp[execOp,ho,hi,g1],g2⟩
 ·rename_i s x k ok ho;split at h<;>try (simp at h;done)
  rename_i u1 u2 h1 h2;obtain⟨v',g1,g2⟩:=Tq (P:=P) (w:=w) hK hr (BZ hr ht h1) (BZ hr ht h2) h;exact⟨v',by simp[execOp,ho,g1],g2⟩
 ·rename_i x i ho;split at h<;>try (simp at h;done)
  rename_i vs hx;obtain⟨vs',e1,hvs⟩:=(BZ hr ht hx).inv_tuple;obtain⟨y,hy,hry⟩:=hvs.get h;have hy':vs'[i]?=some y:=by simpa using hy
  exact⟨y,by simp[execOp,ho,e1,Instr.extract,hy'],hry⟩
 ·rename_i ty parts ho;split at h<;>try (simp at h;done)
  rename_i ps hps;have hp:=IL hr ht hps;obtain⟨v',g1,g2⟩:=Xr (P:=P) (w:=w) (ps':=parts.map λx=>(x.1,a.eval x.2)) (by simpa using hp) h;exact⟨v',by simp[execOp,ho,g1],g2⟩
 ·rename_i ty x lo hi mx ho;split at h<;>try (simp at h;done)
  rename_i u l1 l2 l3 hu h1 h2 h3;obtain⟨v',g1,g2⟩:=Xw (P:=P) (w:=w) (BZ hr ht hu) (LL hr ht h1) (LL hr ht h2) (LL hr ht h3) h;exact⟨v',by simp[execOp,ho,g1],g2⟩
 ·rename_i s d x ho;split at h<;>try (simp at h;done)
  rename_i u hu;obtain⟨v',g1,g2⟩:=Zq (P:=P) hr (BZ hr ht hu) h;exact⟨v',by simp only[execOp,ho,Sem.run_bind,g1,Result.andThen_ok,Sem.run_pure],g2⟩
 ·rename_i args tys ho;split at h<;>try (simp at h;done)
  rename_i x ty hx ht';split at h<;>try (simp at h;done)
  rename_i u hu;have e1:args= #[x]:=Array.ext' (by simpa using hx);have e2:tys= #[ty]:=Array.ext' (by simpa using ht');subst e1 e2;obtain⟨g1,g2⟩:=iB (P:=P) (ty:=o.type) hr (BZ hr ht hu) h;exact⟨v,by simp[execOp,ho,resolve,invoke,builtin,g1],g2⟩
 ·rename_i args tys ho;split at h<;>try (simp at h;done)
  rename_i k x l hx;split at h<;>simp at h;rename_i r hm;subst h;have hv:=Ig hr ht hx;generalize hq:args.toList.map a.eval=q at hv;cases hv with
  |cons h0 t0=>
   cases h0;have e1:(args.map a.eval).toList=args.toList.map a.eval:=by simp
   refine⟨_,?_, .int _ _⟩;simp only[execOp,ho,resolve,Sem.run_bind,Sem.run_pure,Result.andThen_ok,invoke,builtin,Builtin.min_,e1,hq];rw[Va t0 hm];rfl
 ·rename_i args tys ho;split at h<;>try (simp at h;done)
  rename_i k x l hx;split at h<;>simp at h;rename_i r hm;subst h;have hv:=Ig hr ht hx;generalize hq:args.toList.map a.eval=q at hv;cases hv with
  |cons h0 t0=>
   cases h0;have e1:(args.map a.eval).toList=args.toList.map a.eval:=by simp
   refine⟨_,?_, .int _ _⟩;simp only[execOp,ho,resolve,Sem.run_bind,Sem.run_pure,Result.andThen_ok,invoke,builtin,Builtin.max_,e1,hq];rw[Vb t0 hm];rfl
end
end Go.DI
namespace Go.DI
section
variable{P:Program}{K:TypeId->Bool}{G B0 n:Nat}{ι:Ren}{m:Mem}{w:World}{t:AF}{a:Act}
abbrev C7:=FuncId->List Value->Mem->Option (Value×Mem)
def EI(P:Program)(B0 G:Nat)(f:FuncId)(args:List Value)(m:Mem)(v:Value)(m':Mem):Prop:=
 ∀(ι:Ren) (w:World) (args':List Value),Rel B0 G ι m w->FA ι m.size m'.size->Bb ι args args'->
  Calls P f args'.toArray w λe w'=>∃v' ι',e= .returned v'/\AZ ι' v v'/\Rel B0 G ι' m' w'/\EP ι ι' m m' w w'
structure CR(P:Program)(B0 G:Nat)(cf:C7):Prop where
 size:∀f args m v m',cf f args m=some (v,m')->m.size<=m'.size
 ok:∀f args m v m',cf f args m=some (v,m')->EI P B0 G f args m v m'
 body:∀f args m v m',cf f args m=some (v,m')→∃fn,P.funcs[f]?=some fn∧fn.body.isNone=false∧(fn.name== "runtime.NumGoroutine")=false
theorem ID{b off:Nat}{vs:List Value}{m':Mem}(h:EX m b off vs=some m'):m'.size=m.size:=by
 unfold EX at h
 split at h<;>try (simp at h;done)
 split at h<;>try (simp at h;done)
 split at h<;>simp at h
 subst h;rfl
theorem RY{s:TypeId}{x v:Value}{m':Mem}(h:Bx P m s v x=some m'):m'.size=m.size:=by
 unfold Bx at h
 split at h<;>try (simp at h;done)
 split at h<;>try (simp at h;done)
 split at h<;>try (simp at h;done)
 exact ID h
theorem Hg{s:TypeId}{x k v:Value}{m':Mem}(h:Cl P K m s x k v=some m'):m'.size=m.size:=by
 unfold Cl at h
 split at h<;>try (simp at h;done)
 split at h<;>try (simp at h;done)
 split at h<;>try (simp at h;done)
 split at h<;>try (simp at h;done)
 split at h<;>try (simp at h;done)
 ·split at h<;>try (simp at h;done)
  split at h<;>simp at h;subst h;rfl
 ·simp at h;subst h;rfl
theorem Py{tS tX:TypeId}{s x v:Value}{m':Mem}(h:Bi P m tS tX s x=some (v,m')):m.size<=m'.size:=by
 unfold Bi at h
 split at h<;>try (simp at h;done)
 split at h<;>try (simp at h;done)
 split at h<;>try (simp at h;done)
 split at h<;>try (simp at h;done)
 split at h
 ·split at h
  ·split at h<;>simp at h;rw[h.2];exact Nat.le_refl _
  ·split at h
   ·simp at h;rw[h.2];exact Nat.le_refl _
   ·split at h<;>simp at h;rename_i hst;have hst:=IA hst;rw[←h.2,ID hst];exact Nat.le_refl _
 ·split at h<;>try (simp at h;done)
  split at h<;>try (simp at h;done)
  split at h<;>try (simp at h;done)
  split at h
  ·split at h<;>try (simp at h;done)
   split at h<;>simp at h;rw[←h.2];simp
  ·simp at h;rw[←h.2];simp
theorem T5{tD:TypeId}{s x v:Value}{m':Mem}(h:Mw P m tD s x=some (v,m')):m.size<=m'.size:=by
 unfold Mw at h
 split at h<;>try (simp at h;done)
 split at h<;>try (simp at h;done)
 split at h<;>try (simp at h;done)
 split at h<;>try (simp at h;done)
 split at h
 ·simp at h;rw[h.2];exact Nat.le_refl _
 ·split at h
  ·simp at h;rw[h.2];exact Nat.le_refl _
  ·split at h<;>simp at h;rename_i hst;rw[←h.2,ID hst];exact Nat.le_refl _
theorem T6{s d:TypeId}{x v:Value}{m':Mem}(h:My P m s d x=some (v,m')):m.size<=m'.size:=by
 unfold My at h
 split at h<;>try (simp at h;done)
 ·split at h<;>simp at h;rw[h.2];exact Nat.le_refl _
 ·split at h<;>simp at h;rw[h.2];exact Nat.le_refl _
 ·split at h<;>simp at h;rw[←h.2];simp
 ·split at h<;>try (simp at h;done)
  split at h<;>try (simp at h;done)
  ·simp at h;rw[h.2];exact Nat.le_refl _
  ·split at h<;>try (simp at h;done)
   split at h<;>simp at h;rw[h.2];exact Nat.le_refl _
theorem RZ{cf:C7}(hcf:∀f args m v m',cf f args m=some (v,m')->m.size<=m'.size){o:Op}{v:Value}{m':Mem}(h:Cv P K G cf t m o=some (v,m')):m.size<=m'.size:=by
 unfold Cv at h
 split at h<;>try (simp at h;done)
 ·split at h<;>try (simp at h;done)
  split at h<;>simp at h;rename_i hs;rw[←h.2,RY hs];exact Nat.le_refl _
 ·split at h<;>try (simp at h;done)
  split at h<;>simp at h;rename_i hs;rw[←h.2,Hg hs];exact Nat.le_refl _
 ·split at h<;>try (simp at h;done)
  split at h<;>simp at h;rename_i hs;rw[←h.2,Hg hs];exact Nat.le_refl _
 ·split at h<;>try (simp at h;done)
  exact T6 h
 ·split at h<;>try (simp at h;done)
  split at h<;>try (simp at h;done)
  exact Py h
 ·split at h<;>try (simp at h;done)
  split at h<;>try (simp at h;done)
  exact T5 h
 ·split at h<;>try (simp at h;done)
  exact hcf _ _ _ _ _ h
theorem R1{cf:C7}(hcf:∀f args m v m',cf f args m=some (v,m')->m.size<=m'.size){o:Op}{v:Value}{m':Mem}(h:Dr P K G cf t m o=some (v,m')):m.size<=m'.size:=by
 unfold Dr at h
 split at h
 ·split at h<;>simp at h;rw[h.2];exact Nat.le_refl _
 ·split at h<;>simp at h;rw[←h.2];simp
 ·exact RZ hcf h
theorem R2(hK:Plain P K){cf:C7}(hcf:CR P B0 G cf)(hr:Rel B0 G ι m w)(ht:Be ι n t a){o:Oper}{v:Value}{m':Mem}(h:Cv P K G cf t m o.op=some (v,m'))(hf:FA ι m.size m'.size)
  {next:Act->World->Prop} {Q:Exit->Act->World->Prop} (hnext:∀ι' v' w',AZ ι' v v'->Rel B0 G ι' m' w'->EP ι ι' m m' w w'->next (a.put o.dst v') w'):o.wp P a w next Q:=by
 have hn:m.size<m'.size->ι m.size=none:=λh=>hf _ (Nat.le_refl _) h
 unfold Oper.wp
 unfold Cv at h
 split at h<;>try (simp at h;done)
 ·rename_i ty x y ho;split at h<;>try (simp at h;done)
  rename_i u1 u2 h1 h2;split at h<;>simp at h;rename_i m₁ hs;obtain⟨rfl,rfl⟩:=h;obtain⟨w',g1,g2,g3⟩:=Xc (P:=P) hr (BZ hr ht h1) (BZ hr ht h2) hs;simp only[execOp,ho,Sem.run_bind,g1,Result.andThen_ok,Sem.run_pure];exact hnext ι _ w' (AZ.undef _) g2 g3
 ·rename_i ty x k y ho;split at h<;>try (simp at h;done)
  rename_i u1 u2 u3 h1 h2 h3;split at h<;>simp at h;rename_i m₁ hs;obtain⟨rfl,rfl⟩:=h;obtain⟨w',g1,g2,g3⟩:=JF (P:=P) hK hr (BZ hr ht h1) (BZ hr ht h2) (BZ hr ht h3) hs;simp only[execOp,ho,Sem.run_bind,g1,Result.andThen_ok,Sem.run_pure];exact hnext ι _ w' (AZ.undef _) g2 g3
 ·rename_i ty x k y ho;split at h<;>try (simp at h;done)
  rename_i u1 u2 u3 h1 h2 h3;split at h<;>simp at h;rename_i m₁ hs;obtain⟨rfl,rfl⟩:=h;obtain⟨w',g1,g2,g3⟩:=JF (P:=P) hK hr (BZ hr ht h1) (BZ hr ht h2) (BZ hr ht h3) hs;simp only[execOp,ho,Sem.run_bind,g1,Result.andThen_ok,Sem.run_pure];exact hnext ι _ w' (AZ.undef _) g2 g3
 ·rename_i s d x ho;split at h<;>try (simp at h;done)
  rename_i u hu;obtain⟨ι',v',w',g1,g2,g3,g4⟩:=Zp (P:=P) hr (BZ hr ht hu) hn h;simp only[execOp,ho,Sem.run_bind,g1,Result.andThen_ok,Sem.run_pure];exact hnext ι' v' w' g2 g3 g4
 ·rename_i args tys ho;split at h<;>try (simp at h;done)
  rename_i x y tS tX hx ht';split at h<;>try (simp at h;done)
  rename_i u1 u2 h1 h2;have e1:args= #[x,y]:=Array.ext' (by simpa using hx);have e2:tys= #[tS,tX]:=Array.ext' (by simpa using ht');subst e1 e2;obtain⟨ι',v',w',g1,g2,g3,g4⟩:=T3 (P:=P) (ty:=o.type) hr (BZ hr ht h1) (BZ hr ht h2) hn h;simp only[execOp,ho,resolve,Sem.run_bind,Sem.run_pure,Result.andThen_ok,invoke,builtin,List.map_toArray,List.map_cons,List.map_nil,g1];exact hnext ι' v' w' g2 g3 g4
 ·rename_i args tys ho;split at h<;>try (simp at h;done)
  rename_i x y tS tX hx ht';split at h<;>try (simp at h;done)
  rename_i u1 u2 h1 h2;have e1:args= #[x,y]:=Array.ext' (by simpa using hx);have e2:tys= #[tS,tX]:=Array.ext' (by simpa using ht');subst e1 e2;obtain⟨v',w',g1,g2,g3,g4⟩:=Zo (P:=P) (tX:=tX) (ty:=o.type) hr (BZ hr ht h1) (BZ hr ht h2) h;simp only[execOp,ho,resolve,Sem.run_bind,Sem.run_pure,Result.andThen_ok,invoke,builtin,List.map_toArray,List.map_cons,List.map_nil,g1];exact hnext ι v' w' g2 g3 g4
 ·rename_i f args tys ho;split at h<;>try (simp at h;done)
  rename_i g first captured vs h1 h2
  obtain⟨fn,hfn,hbody,hname⟩:=hcf.body _ _ _ _ _ h;obtain⟨a',b',e1,g1,g2⟩:=(BZ hr ht h1).inv_func;have g3:=Ig hr ht h2;have hcall:=hcf.ok _ _ _ _ _ h ι w (a'.toList++(args.toList.map a.eval++b'.toList)) hr hf (g1.append (g3.append g2));have earr:(a'.toList++(args.toList.map a.eval++b'.toList)).toArray=a'++args.map a.eval++b':=by apply Array.ext';simp
  rw[earr]at hcall;simp only[execOp,ho,resolve,e1,Deferred.ofValue,Sem.run_bind,Sem.run_pure,Result.andThen_ok,invoke,callFunc,run_program,hfn,hname,hbody,Bool.false_eq_true,if_false];refine Calls.mono hcall λe w' he=>?_;obtain⟨v',ι',rfl,g4,g5,g6⟩:=he;exact hnext ι' v' w' g4 g5 g6
theorem ry(hK:Plain P K){cf:C7}(hcf:CR P B0 G cf)(hr:Rel B0 G ι m w)(ht:Be ι n t a){o:Oper}{v:Value}{m':Mem}(h:Dr P K G cf t m o.op=some (v,m'))(hf:FA ι m.size m'.size)
  {next:Act->World->Prop} {Q:Exit->Act->World->Prop} (hnext:∀ι' v' w',AZ ι' v v'->Rel B0 G ι' m' w'->EP ι ι' m m' w w'->next (a.put o.dst v') w'):o.wp P a w next Q:=by
 unfold Dr at h
 split at h
 ·split at h<;>simp at h;rename_i u hu;obtain⟨rfl,rfl⟩:=h;obtain⟨v',g1,g2⟩:=R3 hK hr ht hu;unfold Oper.wp;rw[g1];exact hnext ι v' w g2 hr (EP.refl _ _ _)
 ·split at h<;>simp at h;rename_i x q hx;obtain⟨rfl,rfl⟩:=h;obtain⟨ι',v',w',g1,g2,g3,g4⟩:=Xd (P:=P) hr ht (hf _ (Nat.le_refl _) (by simp)) hx;unfold Oper.wp;rw[g1];exact hnext ι' v' w' g2 g3 g4
 ·exact R2 hK hcf hr ht h hf hnext
theorem Be.putD(ht:Be ι n t a){dst:Option Tmp}(hd:HL n dst=true){v v':Value}(hv:AZ ι v v'):Be ι n (putD t dst v) (a.put dst v'):=by
 cases dst with
 |none=>exact ht
 |some d=>exact ht.put (by simpa[HL]using hd) hv
theorem On(ht:Be ι n t a)(ops:Array Oper):EY ops.toList t=yielded ops a.tmps:=by
 funext j
 unfold EY yielded
 rw[Array.getElem?_toList]
 cases hj:ops[j]? with
 |none=>rfl
 |some o=>
  simp only[Option.bind_some];cases hd:o.dst with
  |none=>rfl
  |some d=>
   simp only[Option.bind_some];have h:=ht.2 d;rw[Array.getD_eq_getD_getElem?]at h;cases hg:a.tmps[d]? with
   |none=>
    rw[hg]at h;simp only[Option.getD_none]at h;generalize t.at d=q at h;cases h<;>rfl
   |some u=>
    rw[hg]at h;simp only[Option.getD_some]at h;generalize t.at d=q at h;cases h<;>rfl
theorem Ih{cf:C7}(hcf:∀f args m v m',cf f args m=some (v,m')->m.size<=m'.size){ops:List Oper}:∀(l:List Oper) (t:AF) (m:Mem) (t':AF) (m':Mem),EM P K G cf n ops l t m=some (t',m')->m.size<=m'.size
 | [],t,m,t',m',h=>by simp[EM]at h;rw[h.2];exact Nat.le_refl _
 |o::l,t,m,t',m',h=>by
  simp only[EM]at h;split at h<;>try (simp at h;done)
  split at h
  ·split at h<;>try (simp at h;done)
   rename_i v m₁ hv;exact Nat.le_trans (R1 hcf hv) (Ih hcf l _ _ _ _ h)
  ·exact Ih hcf l _ _ _ _ h
def Em(B0 G n:Nat)(ι:Ren)(m:Mem)(w:World)(a:Act)(t':AF)(m':Mem)(a':Act)(w':World):Prop:=
 ∃ι',Be ι' n t' a'/\Rel B0 G ι' m' w'/\EP ι ι' m m' w w'/\a'.defers=a.defers
theorem Em.trans{ι₁:Ren}{m₁ m₂:Mem}{w₁ w₂:World}{a₁ a₂:Act}{t₂:AF}(s:EP ι ι₁ m m₁ w w₁)(hd:a₁.defers=a.defers)(h:Em B0 G n ι₁ m₁ w₁ a₁ t₂ m₂ a₂ w₂):Em B0 G n ι m w a t₂ m₂ a₂ w₂:=by
 obtain⟨ι',g1,g2,g3,g4⟩:=h
 exact⟨ι',g1,g2,s.trans g3,g4.trans hd⟩
theorem put_defers(a:Act)(d:Option Tmp)(v:Value):(a.put d v).defers=a.defers:=by cases d<;>rfl
theorem Pz(hK:Plain P K){cf:C7}(hcf:CR P B0 G cf){ops:Array Oper}{Q:Exit->Act->World->Prop}:∀(l:List Oper) (i:Nat),(∀j,l[j]?=ops[i+j]?)->∀(ι:Ren) (t:AF) (m:Mem) (w:World) (a:Act) (t':AF) (m':Mem),
  EM P K G cf n ops.toList l t m=some (t',m')->Rel B0 G ι m w->Be ι n t a->FA ι m.size m'.size->
  (∀a' w',Em B0 G n ι m w a t' m' a' w'->Q .normal a' w')->wpOps P ops Q (List.range' i l.length) a w
 | [],i,hl,ι,t,m,w,a,t',m',h,hr,ht,hf,hQ=>by
  simp[EM]at h;obtain⟨rfl,rfl⟩:=h;simp only[List.length_nil,List.range'_zero,wpOps];exact hQ a w ⟨ι,ht,hr,EP.refl _ _ _,rfl⟩
 |o::l,i,hl,ι,t,m,w,a,t',m',h,hr,ht,hf,hQ=>by
  simp only[EM]at h;split at h<;>try (simp at h;done)
  rename_i hd;have ho:ops[i]?=some o:=by have:=hl 0;simpa using this.symm
  have hl':∀j,l[j]?=ops[i+1+j]?:=λj=>by have:=hl (j+1);simp at this;rw[this];congr 1;omega
  rw[List.length_cons,List.range'_succ];simp only[wpOps,ho];rw[On ht]at h;split at h
  ·rename_i hw;rw[if_pos hw];split at h<;>try (simp at h;done)
   rename_i v m₁ hv;have s1:=R1 hcf.size hv;have s2:=Ih hcf.size _ _ _ _ _ h;refine .inl (ry hK hcf hr ht hv (hf.sub (Nat.le_refl _) s2) λι' v' w' g1 g2 g3=>?_);refine Pz hK hcf l (i+1) hl' ι' _ m₁ w' _ t' m' h g2 ((ht.mono g3.ext).putD hd g1) ((hf.sub s1 (Nat.le_refl _)).stp g3 (Nat.le_refl _)) λa' w'' ha=>hQ a' w'' ?_;exact Em.trans g3 (put_defers _ _ _) ha
  ·rename_i hw;rw[if_neg hw];refine Pz hK hcf l (i+1) hl' ι _ m w _ t' m' h hr (ht.putD hd (AZ.undef _)) hf λa' w'' ha=>hQ a' w'' ?_;exact Em.trans (EP.refl _ _ _) (put_defers _ _ _) ha
theorem Xe(hK:Plain P K){cf:C7}(hcf:CR P B0 G cf){ops:Array Oper}{id:Nat}{Q:Exit->Act->World->Prop}{t':AF}{m':Mem}
  (h:EM P K G cf n ops.toList ops.toList t m=some (t',m')) (hr:Rel B0 G ι m w) (ht:Be ι n t a) (hf:FA ι m.size m'.size)
  (hQ:∀a' w',Em B0 G n ι m w a t' m' a' w'->Q .normal a' w'):(Code.region id ops false).wp P Q a w:=by
 refine wp_region ?_
 have:=Pz (Q:=Q) hK hcf (ops:=ops) ops.toList 0 (λj=>by simp) ι t m w a t' m' h hr ht hf hQ
 rw[List.range_eq_range']
 simpa using this
def Zr(P:Program)(B0 G n:Nat)(dr:List Oper->AF->Mem->Option (AF×Mem)):Prop:=
 (∀ops t m t' m',dr ops t m=some (t',m')->m.size<=m'.size)/\
 ∀(ops:Array Oper) (id:Nat) (ι:Ren) (t:AF) (m:Mem) (w:World) (a:Act) (t':AF) (m':Mem) (Q:Exit->Act->World->Prop),
  dr ops.toList t m=some (t',m')->Rel B0 G ι m w->Be ι n t a->FA ι m.size m'.size->
  (∀a' w',Em B0 G n ι m w a t' m' a' w'->Q .normal a' w')->(Code.region id ops true).wp P Q a w
def Ex.to:Ex->Exit
 | .normal=> .normal
 | .exit id=> .exit id
 | .ret=> .ret
theorem J4{body:AF->Mem->Option (Ex×AF×Mem)}(hb:∀t m e t' m',body t m=some (e,t',m')->m.size<=m'.size):∀(k:Nat) (t:AF) (m:Mem) (e:Ex) (t':AF) (m':Mem),BT body k t m=some (e,t',m')->m.size<=m'.size
 |0,t,m,e,t',m',h=>by simp[BT]at h
 |k+1,t,m,e,t',m',h=>by
  simp only[BT]at h;split at h
  ·rename_i t₁ m₁ h1;exact Nat.le_trans (hb _ _ _ _ _ h1) (J4 hb k _ _ _ _ _ h)
  ·exact hb _ _ _ _ _ h
theorem Mz{cf:C7}(hcf:∀f args m v m',cf f args m=some (v,m')->m.size<=m'.size){dr:List Oper->AF->Mem->Option (AF×Mem)}(hdr:∀ops t m t' m',dr ops t m=some (t',m')->m.size<=m'.size){k:Nat}:
  ∀(c:Code) (t:AF) (m:Mem) (e:Ex) (t':AF) (m':Mem),AI P K G cf dr n k c t m=some (e,t',m')->m.size<=m'.size:=by
 intro c
 induction c with
 |skip=>intro t m e t' m' h;simp[AI]at h;rw[h.2.2];exact Nat.le_refl _
 |label l=>intro t m e t' m' h;simp[AI]at h;rw[h.2.2];exact Nat.le_refl _
 |region id ops draw=>
  intro t m e t' m' h;simp only[AI]at h;split at h<;>simp at h;rename_i t₁ m₁ h1;rw[←h.2.2];cases draw
  ·exact Ih hcf _ _ _ _ _ h1
  ·exact hdr _ _ _ _ _ h1
 |seq x y ihx ihy=>
  intro t m e t' m' h;simp only[AI]at h;split at h
  ·rename_i t₁ m₁ h1;exact Nat.le_trans (ihx _ _ _ _ _ h1) (ihy _ _ _ _ _ h)
  ·exact ihx _ _ _ _ _ h
 |cond c x y ihx ihy=>
  intro t m e t' m' h;simp only[AI]at h;split at h<;>try (simp at h;done)
  ·exact ihx _ _ _ _ _ h
  ·exact ihy _ _ _ _ _ h
 |block id c ih=>
  intro t m e t' m' h;simp only[AI]at h;split at h
  ·rename_i id' t₁ m₁ h1;split at h<;>simp at h<;>rw[←h.2.2] <;>exact ih _ _ _ _ _ h1
  ·exact ih _ _ _ _ _ h
 |loop c ih=>intro t m e t' m' h;simp only[AI]at h;exact J4 (λt m e t' m' h=>ih t m e t' m' h) _ _ _ _ _ _ h
 |exit id=>intro t m e t' m' h;simp[AI]at h;rw[h.2.2];exact Nat.le_refl _
 |ret=>intro t m e t' m' h;simp[AI]at h;rw[h.2.2];exact Nat.le_refl _
 |rangeFunc=>intro t m e t' m' h;simp[AI]at h
 |scope c ih=>intro t m e t' m' h;simp only[AI]at h;exact ih _ _ _ _ _ h
 |goto=>intro t m e t' m' h;simp[AI]at h
 |refuse=>intro t m e t' m' h;simp[AI]at h
def nh(P:Program)(B0 G n:Nat)(c:Code)(t:AF)(m:Mem)(e:Ex)(t':AF)(m':Mem):Prop:=
 ∀(ι:Ren) (w:World) (a:Act) (Q:Exit->Act->World->Prop),Rel B0 G ι m w->Be ι n t a->FA ι m.size m'.size->(∀a' w',Em B0 G n ι m w a t' m' a' w'->Q e.to a' w')->c.wp P Q a w
theorem KK(hK:Plain P K){cf:C7}(hcf:CR P B0 G cf){dr:List Oper->AF->Mem->Option (AF×Mem)}(hdr:Zr P B0 G n dr){k:Nat}:
  ∀(c:Code) (t:AF) (m:Mem) (e:Ex) (t':AF) (m':Mem),AI P K G cf dr n k c t m=some (e,t',m')->nh P B0 G n c t m e t' m':=by
 intro c
 have hsz:=λc=>Mz (P:=P) (K:=K) (G:=G) (n:=n) (k:=k) hcf.size hdr.1 c
 induction c with
 |skip=>intro t m e t' m' h;simp[AI]at h;obtain⟨rfl,rfl,rfl⟩:=h;intro ι w a Q hr ht hf hQ;exact wp_skip (hQ a w ⟨ι,ht,hr,EP.refl _ _ _,rfl⟩)
 |label l=>intro t m e t' m' h;simp[AI]at h;obtain⟨rfl,rfl,rfl⟩:=h;intro ι w a Q hr ht hf hQ;exact wp_label (hQ a w ⟨ι,ht,hr,EP.refl _ _ _,rfl⟩)
 |region id ops draw=>
  intro t m e t' m' h;simp only[AI]at h;split at h<;>simp at h;rename_i t₁ m₁ h1;obtain⟨rfl,rfl,rfl⟩:=h;intro ι w a Q hr ht hf hQ;cases draw
  ·exact Xe hK hcf h1 hr ht hf hQ
  ·exact hdr.2 ops id ι t m w a _ _ Q h1 hr ht hf hQ
 |seq x y ihx ihy=>
  intro t m e t' m' h;simp only[AI]at h;intro ι w a Q hr ht hf hQ;split at h
  ·rename_i t₁ m₁ h1;have s1:=hsz x _ _ _ _ _ h1;have s2:=hsz y _ _ _ _ _ h;refine wp_seq (ihx _ _ _ _ _ h1 ι w a _ hr ht (hf.sub (Nat.le_refl _) s2) λa₁ w₁ ha=>?_);obtain⟨ι₁,g1,g2,g3,g4⟩:=ha;simp only[Ex.to,Exit.then];exact ihy _ _ _ _ _ h ι₁ w₁ a₁ Q g2 g1 ((hf.sub s1 (Nat.le_refl _)).stp g3 (Nat.le_refl _)) λa₂ w₂ ha₂=>hQ a₂ w₂ (Em.trans g3 g4 ha₂)
  ·rename_i hne;refine wp_seq (ihx _ _ _ _ _ h ι w a _ hr ht hf λa₁ w₁ ha=>?_);have:=hQ a₁ w₁ ha;cases e with
   |normal=>exact absurd h (hne _ _)
   |exit id=>exact this
   |ret=>exact this
 |cond c x y ihx ihy=>
  intro t m e t' m' h;simp only[AI]at h;intro ι w a Q hr ht hf hQ;split at h<;>try (simp at h;done)
  ·rename_i hc;exact wp_cond_true (BZ hr ht hc).inv_bool (ihx _ _ _ _ _ h ι w a Q hr ht hf hQ)
  ·rename_i hc;exact wp_cond_false (BZ hr ht hc).inv_bool (ihy _ _ _ _ _ h ι w a Q hr ht hf hQ)
 |block id c ih=>
  intro t m e t' m' h;simp only[AI]at h;intro ι w a Q hr ht hf hQ;split at h
  ·rename_i id' t₁ m₁ h1;split at h<;>simp at h
   ·rename_i he;obtain⟨rfl,rfl,rfl⟩:=h;refine wp_block (ih _ _ _ _ _ h1 ι w a _ hr ht hf λa₁ w₁ ha=>?_);simp only[Ex.to,Exit.inBlock,he,if_true];exact hQ a₁ w₁ ha
   ·rename_i he;obtain⟨rfl,rfl,rfl⟩:=h;refine wp_block (ih _ _ _ _ _ h1 ι w a _ hr ht hf λa₁ w₁ ha=>?_);simp only[Ex.to,Exit.inBlock,he,if_false];exact hQ a₁ w₁ ha
  ·rename_i hne;refine wp_block (ih _ _ _ _ _ h ι w a _ hr ht hf λa₁ w₁ ha=>?_);have:=hQ a₁ w₁ ha;cases e with
   |normal=>exact this
   |exit id=>exact absurd h (hne _ _ _)
   |ret=>exact this
 |loop c ih=>
  intro t m e t' m' h;simp only[AI]at h;intro ι w a Q hr ht hf hQ;refine wp_loop_rounds k ?_
  have key:∀(k':Nat) (t:AF) (m:Mem) (ι:Ren) (w:World) (a:Act) (Q:Exit->Act->World->Prop),BT (AI P K G cf dr n k c) k' t m=some (e,t',m')->Rel B0 G ι m w->Be ι n t a->FA ι m.size m'.size->
    (∀a' w',Em B0 G n ι m w a t' m' a' w'->Q e.to a' w')->e.to≠ .normal->Code.rounds P c Q k' a w:=by
   intro k';induction k' with
   |zero=>intro t m ι w a Q h;simp[BT]at h
   |succ k' ih2=>
    intro t m ι w a Q h hr ht hf hQ hne';simp only[BT]at h;rw[rounds_succ];split at h
    ·rename_i t₁ m₁ h1;have s1:=hsz c _ _ _ _ _ h1;have s2:=J4 (λt m e t' m' h=>hsz c t m e t' m' h) _ _ _ _ _ _ h;refine ih _ _ _ _ _ h1 ι w a _ hr ht (hf.sub (Nat.le_refl _) s2) λa₁ w₁ ha=>?_;obtain⟨ι₁,g1,g2,g3,g4⟩:=ha;simp only[Ex.to,Exit.then];exact ih2 t₁ m₁ ι₁ w₁ a₁ Q h g2 g1 ((hf.sub s1 (Nat.le_refl _)).stp g3 (Nat.le_refl _)) (λa₂ w₂ ha₂=>hQ a₂ w₂ (Em.trans g3 g4 ha₂)) hne'
    ·rename_i hne;refine ih _ _ _ _ _ h ι w a _ hr ht hf λa₁ w₁ ha=>?_;have:=hQ a₁ w₁ ha;cases e with
     |normal=>exact absurd h (hne _ _)
     |exit id=>exact this
     |ret=>exact this
  have hne':e.to≠ .normal:=by
   have:∀(k':Nat) (t:AF) (m:Mem),BT (AI P K G cf dr n k c) k' t m=some (e,t',m')->e.to≠ .normal:=by
    intro k';induction k' with
    |zero=>intro t m h;simp[BT]at h
    |succ k' ih2=>
     intro t m h;simp only[BT]at h;split at h
     ·exact ih2 _ _ h
     ·rename_i hne;cases e with
      |normal=>exact absurd h (hne _ _)
      |exit id=>simp[Ex.to]
      |ret=>simp[Ex.to]
   exact this k t m h
  exact key k t m ι w a Q h hr ht hf hQ hne'
 |exit id=>intro t m e t' m' h;simp[AI]at h;obtain⟨rfl,rfl,rfl⟩:=h;intro ι w a Q hr ht hf hQ;exact wp_exit (hQ a w ⟨ι,ht,hr,EP.refl _ _ _,rfl⟩)
 |ret=>intro t m e t' m' h;simp[AI]at h;obtain⟨rfl,rfl,rfl⟩:=h;intro ι w a Q hr ht hf hQ;exact wp_ret (hQ a w ⟨ι,ht,hr,EP.refl _ _ _,rfl⟩)
 |rangeFunc=>intro t m e t' m' h;simp[AI]at h
 |scope c ih=>
  intro t m e t' m' h;simp only[AI]at h;intro ι w a Q hr ht hf hQ;refine wp_scope_straight (ih _ _ _ _ _ h ι w a _ hr ht hf λa₁ w₁ ha=>?_);have:=hQ a₁ w₁ ha;cases e<;>exact this
 |goto=>intro t m e t' m' h;simp[AI]at h
 |refuse=>intro t m e t' m' h;simp[AI]at h
end
end Go.DI
namespace Go.DI
section
variable{P:Program}{K:TypeId->Bool}{G B0 n:Nat}{ι:Ren}{m:Mem}{w:World}{t:AF}{a:Act}
def Mem.top(m:Mem):Prop:=∀b,m.size<=b->m.get b= .none
structure EL(m m':Mem):Prop where
 size:m.size<=m'.size
 top:m.top->m'.top
 live:∀b,b<m.size->(m'.get b).live->(m.get b).live
 own:∀b,b<m.size->(m'.get b).own=true->(m.get b).own=true
theorem EL.refl(m:Mem):EL m m:=⟨Nat.le_refl _,id,λ_ _=>id,λ_ _=>id⟩
theorem EL.trans{m m₁ m₂:Mem}(h:EL m m₁)(k:EL m₁ m₂):EL m m₂:=
 ⟨Nat.le_trans h.size k.size,λq=>k.top (h.top q),λb hb q=>h.live b hb (k.live b (Nat.lt_of_lt_of_le hb h.size) q),λb hb q=>h.own b hb (k.own b (Nat.lt_of_lt_of_le hb h.size) q)⟩
theorem EL.set{b:Nat}{x:BI}(hl:(m.get b).live)(h1:x.own=true->(m.get b).own=true):EL m (m.set b x):=by
 refine⟨Nat.le_refl _,λq c hc=>?_,λc hc q=>?_,λc hc q=>?_⟩
 ·rw[Mem.get_set];split
  ·rename_i e;subst e;rw[q c hc]at hl;exact hl.elim
  ·exact q c hc
 ·rw[Mem.get_set]at q;split at q
  ·rename_i e;subst e;exact hl
  ·exact q
 ·rw[Mem.get_set]at q;split at q
  ·rename_i e;subst e;exact h1 q
  ·exact q
theorem EL.push(m:Mem)(x:BI):EL m (m.push x):=by
 refine⟨by simp,λq c hc=>?_,λc hc q=>?_,λc hc q=>?_⟩
 ·simp at hc;rw[Mem.get_push_ne _ (by omega)];exact q c (by omega)
 ·rw[Mem.get_push_ne _ (by omega)]at q;exact q
 ·rw[Mem.get_push_ne _ (by omega)]at q;exact q
theorem Ja{b off:Nat}{vs:List Value}{m':Mem}(h:EX m b off vs=some m'):EL m m':=by
 unfold EX at h
 split at h<;>try (simp at h;done)
 rename_i hg
 split at h<;>try (simp at h;done)
 split at h<;>simp at h
 subst h
 exact EL.set (by rw[hg];trivial) (by rw[hg];simp[BI.own])
theorem Tg{s:TypeId}{x v:Value}{m':Mem}(h:Bx P m s v x=some m'):EL m m':=by
 unfold Bx at h
 split at h<;>try (simp at h;done)
 split at h<;>try (simp at h;done)
 split at h<;>try (simp at h;done)
 exact Ja h
theorem II{s:TypeId}{x k v:Value}{m':Mem}(h:Cl P K m s x k v=some m'):EL m m':=by
 unfold Cl at h
 split at h<;>try (simp at h;done)
 split at h<;>try (simp at h;done)
 split at h<;>try (simp at h;done)
 rename_i hg
 split at h<;>try (simp at h;done)
 split at h<;>try (simp at h;done)
 ·split at h<;>try (simp at h;done)
  split at h<;>simp at h;subst h;exact EL.set (by rw[hg];trivial) (by rw[hg];simp[BI.own])
 ·simp at h;subst h;exact EL.set (by rw[hg];trivial) (by rw[hg];simp[BI.own])
theorem Re{tS tX:TypeId}{s x v:Value}{m':Mem}(h:Bi P m tS tX s x=some (v,m')):EL m m':=by
 unfold Bi at h
 split at h<;>try (simp at h;done)
 split at h<;>try (simp at h;done)
 split at h<;>try (simp at h;done)
 split at h<;>try (simp at h;done)
 split at h
 ·split at h
  ·split at h<;>simp at h;rw[h.2];exact EL.refl _
  ·split at h
   ·simp at h;rw[h.2];exact EL.refl _
   ·split at h<;>simp at h;rename_i hst;rw[←h.2];exact Ja (IA hst)
 ·split at h<;>try (simp at h;done)
  split at h<;>try (simp at h;done)
  split at h<;>try (simp at h;done)
  split at h
  ·rename_i b off e';split at h<;>try (simp at h;done)
   split at h<;>simp at h;rename_i cb hg;rw[←h.2];refine⟨by simp,λq c hc=>?_,λc hc q=>?_,λc hc q=>?_⟩
   ·simp at hc;rw[Mem.get_set];split
    ·rfl
    ·rw[Mem.get_push_ne _ (by omega)];exact q c (by omega)
   ·rw[Mem.get_set]at q;split at q
    ·exact q.elim
    ·rw[Mem.get_push_ne _ (by omega)]at q;exact q
   ·rw[Mem.get_set]at q;split at q
    ·simp[BI.own]at q
    ·rw[Mem.get_push_ne _ (by omega)]at q;exact q
  ·simp at h;rw[←h.2];exact EL.push _ _
theorem Xl{tD:TypeId}{s x v:Value}{m':Mem}(h:Mw P m tD s x=some (v,m')):EL m m':=by
 unfold Mw at h
 split at h<;>try (simp at h;done)
 split at h<;>try (simp at h;done)
 split at h<;>try (simp at h;done)
 split at h<;>try (simp at h;done)
 split at h
 ·simp at h;rw[h.2];exact EL.refl _
 ·split at h
  ·simp at h;rw[h.2];exact EL.refl _
  ·split at h<;>simp at h;rename_i hst;rw[←h.2];exact Ja hst
theorem Xm{s d:TypeId}{x v:Value}{m':Mem}(h:My P m s d x=some (v,m')):EL m m':=by
 unfold My at h
 split at h<;>try (simp at h;done)
 ·split at h<;>simp at h;rw[h.2];exact EL.refl _
 ·split at h<;>simp at h;rw[h.2];exact EL.refl _
 ·split at h<;>simp at h;rw[←h.2];exact EL.push _ _
 ·split at h<;>try (simp at h;done)
  split at h<;>try (simp at h;done)
  ·simp at h;rw[h.2];exact EL.refl _
  ·split at h<;>try (simp at h;done)
   split at h<;>simp at h;rw[h.2];exact EL.refl _
def B5(cf:C7):Prop:=∀f args m v m',cf f args m=some (v,m')->EL m m'
theorem Th{cf:C7}(hcf:B5 cf){o:Op}{v:Value}{m':Mem}(h:Cv P K G cf t m o=some (v,m')):EL m m':=by
 unfold Cv at h
 split at h<;>try (simp at h;done)
 ·split at h<;>try (simp at h;done)
  split at h<;>simp at h;rename_i hs;rw[←h.2];exact Tg hs
 ·split at h<;>try (simp at h;done)
  split at h<;>simp at h;rename_i hs;rw[←h.2];exact II hs
 ·split at h<;>try (simp at h;done)
  split at h<;>simp at h;rename_i hs;rw[←h.2];exact II hs
 ·split at h<;>try (simp at h;done)
  exact Xm h
 ·split at h<;>try (simp at h;done)
  split at h<;>try (simp at h;done)
  exact Re h
 ·split at h<;>try (simp at h;done)
  split at h<;>try (simp at h;done)
  exact Xl h
 ·split at h<;>try (simp at h;done)
  exact hcf _ _ _ _ _ h
theorem QE{cf:C7}(hcf:B5 cf){o:Op}{v:Value}{m':Mem}(h:Dr P K G cf t m o=some (v,m')):EL m m':=by
 unfold Dr at h
 split at h
 ·split at h<;>simp at h;rw[h.2];exact EL.refl _
 ·split at h<;>simp at h;rw[←h.2];exact EL.push _ _
 ·exact Th hcf h
theorem NR{cf:C7}(hcf:B5 cf){ops:List Oper}:∀(l:List Oper) (t:AF) (m:Mem) (t':AF) (m':Mem),EM P K G cf n ops l t m=some (t',m')->EL m m'
 | [],t,m,t',m',h=>by simp[EM]at h;rw[h.2];exact EL.refl _
 |o::l,t,m,t',m',h=>by
  simp only[EM]at h;split at h<;>try (simp at h;done)
  split at h
  ·split at h<;>try (simp at h;done)
   rename_i v m₁ hv;exact(QE hcf hv).trans (NR hcf l _ _ _ _ h)
  ·exact NR hcf l _ _ _ _ h
theorem Oz{body:AF->Mem->Option (Ex×AF×Mem)}(hb:∀t m e t' m',body t m=some (e,t',m')->EL m m'):∀(k:Nat) (t:AF) (m:Mem) (e:Ex) (t':AF) (m':Mem),BT body k t m=some (e,t',m')->EL m m'
 |0,t,m,e,t',m',h=>by simp[BT]at h
 |k+1,t,m,e,t',m',h=>by
  simp only[BT]at h;split at h
  ·rename_i t₁ m₁ h1;exact(hb _ _ _ _ _ h1).trans (Oz hb k _ _ _ _ _ h)
  ·exact hb _ _ _ _ _ h
theorem LG{cf:C7}(hcf:B5 cf){dr:List Oper->AF->Mem->Option (AF×Mem)}(hdr:∀ops t m t' m',dr ops t m=some (t',m')->EL m m'){k:Nat}:
  ∀(c:Code) (t:AF) (m:Mem) (e:Ex) (t':AF) (m':Mem),AI P K G cf dr n k c t m=some (e,t',m')->EL m m':=by
 intro c
 induction c with
 |skip=>intro t m e t' m' h;simp[AI]at h;rw[h.2.2];exact EL.refl _
 |label l=>intro t m e t' m' h;simp[AI]at h;rw[h.2.2];exact EL.refl _
 |region id ops draw=>
  intro t m e t' m' h;simp only[AI]at h;split at h<;>simp at h;rename_i t₁ m₁ h1;rw[←h.2.2];cases draw
  ·exact NR hcf _ _ _ _ _ h1
  ·exact hdr _ _ _ _ _ h1
 |seq x y ihx ihy=>
  intro t m e t' m' h;simp only[AI]at h;split at h
  ·rename_i t₁ m₁ h1;exact(ihx _ _ _ _ _ h1).trans (ihy _ _ _ _ _ h)
  ·exact ihx _ _ _ _ _ h
 |cond c x y ihx ihy=>
  intro t m e t' m' h;simp only[AI]at h;split at h<;>try (simp at h;done)
  ·exact ihx _ _ _ _ _ h
  ·exact ihy _ _ _ _ _ h
 |block id c ih=>
  intro t m e t' m' h;simp only[AI]at h;split at h
  ·rename_i id' t₁ m₁ h1;split at h<;>simp at h<;>rw[←h.2.2] <;>exact ih _ _ _ _ _ h1
  ·exact ih _ _ _ _ _ h
 |loop c ih=>intro t m e t' m' h;simp only[AI]at h;exact Oz (λt m e t' m' h=>ih t m e t' m' h) _ _ _ _ _ _ h
 |exit id=>intro t m e t' m' h;simp[AI]at h;rw[h.2.2];exact EL.refl _
 |ret=>intro t m e t' m' h;simp[AI]at h;rw[h.2.2];exact EL.refl _
 |rangeFunc=>intro t m e t' m' h;simp[AI]at h
 |scope c ih=>intro t m e t' m' h;simp only[AI]at h;exact ih _ _ _ _ _ h
 |goto=>intro t m e t' m' h;simp[AI]at h
 |refuse=>intro t m e t' m' h;simp[AI]at h
end
end Go.DI
namespace Go.DI
section
variable(P:Program)(K:TypeId->Bool)(G:Nat)
def IF:Op->List Operand
 | .move x| .assign x=> [x]
 | .pick c a b=> [c,a,b]
 | .alloc _=> []
 | .box _ x=> [x]
 | .build _ ps=>ps.toList.map (·.2)
 | .buildSlice _ _ ps=>ps.toList.map (·.2)
 | .insert _ m k v=> [m,k,v]
 | .load _ a=> [a]
 | .store _ a v=> [a,v]
 | .nilCheck x=> [x]
 | .binOp _ _ x y _=> [x,y]
 | .unOp _ _ x=> [x]
 | .convert _ _ x=> [x]
 | .makeFunc _ f c=>f.toList++c.toList
 | .makeMap _ r=>r.toList
 | .makeSlice _ l c=> [l,c]
 | .slice _ x l h m=>x::(l.toList++(h.toList++m.toList))
 | .fieldAddr _ x _=> [x]
 | .field _ x _=> [x]
 | .indexAddr _ x i=> [x,i]
 | .index _ x i=> [x,i]
 | .lookup _ x k _=> [x,k]
 | .mapUpdate _ m k v=> [m,k,v]
 | .extract x _=> [x]
 | .call {callee:= .value f,args,argTypes:=_}=>f::args.toList
 | .call {callee:=_,args,argTypes:=_}=>args.toList
 |_=> []
def H0(ops:List Oper)(o:Oper):List Tmp:=
 ((IF o.op).filterMap fun| .tmp t=>some t|_=>none)++
 (match o.guard with
  |some (g,_)=>match ops[g]? with
   |some u=>u.dst.toList
   |none=> []
  |none=> [])
def Hh(acc:List Nat):List Edge->Nat
 | []=>0
 |e::l=>cond (Region.binds .any e) (2 ^ e.on|||(acc.getD e.on 0|||Hh acc l)) (Hh acc l)
def Cz:List Oper->List Nat->List Nat
 | [],acc=>acc
 |o::l,acc=>Cz l (acc++ [Hh acc o.after.toList])
def Fe(T:List Nat)(i j:Nat):Bool:=(T.getD j 0).testBit i
def BQ(ops:List Oper)(i:Nat):Nat:=match ops[i]? with|some o=>Bd o.op|none=>0
def NF(ops:List Oper)(T:List Nat)(i j:Nat):Bool:=
 match ops[i]?,ops[j]? with
 |some x,some y=>
  (match x.dst with
   |some d=>Nat.beq i j|| !((H0 ops y).contains d||y.dst==some d)||cond (Nat.blt i j) (Fe T i j) (Fe T j i)
   |none=>true) &&
  (!(Nat.beq (Bd x.op) 2 && Nat.beq (Bd y.op) 2 && Nat.blt i j)||Fe T i j)
 |_,_=>false
def J8:List Oper->Nat->Bool
 | [],_=>true
 |o::l,j=>o.after.toList.all (λe=> !(Region.binds .any e)||Nat.blt e.on j) && J8 l (j+1)
def Lg(ops:List Oper)(T:List Nat):Bool:=
 J8 ops 0 && (List.range ops.length).all λi=>(List.range ops.length).all λj=>NF ops T i j
def E1:Op->Bool
 | .load .. | .lookup .. | .convert .. =>true
 | .call {callee:= .builtin .len, ..}=>true
 |_=>false
def Ot(ops:List Oper)(T:List Nat)(i s:Nat):Bool:=
 (Nat.beq s ops.length||(Nat.beq (BQ ops s) 2 && !(Fe T s i))) && (List.range s).all λh=> !(Nat.beq (BQ ops h) 2)|| !(Fe T i h)
def Ou(ops:List Oper)(i s:Nat):Bool:=Nat.ble i s && (List.range s).all λh=> !(Nat.beq (BQ ops h) 2)||Nat.blt h i
def NG(ops:List Oper)(T:List Nat):List (Nat×Nat):=
 (List.range ops.length).flatMap λi=>match ops[i]? with
  |some o=>cond (Nat.beq (Bd o.op) 0 && E1 o.op) ((List.range (ops.length+1)).filterMap λs=>cond (Ot ops T i s && !(Ou ops i s)) (some (i,s)) none) []
  |none=> []
def NH(ops:List Oper)(T:List Nat):List (Nat×Nat):=
 (List.range ops.length).flatMap λi=>cond (Nat.beq (BQ ops i) 1) ((List.range ops.length).filterMap λh=>cond (Nat.blt i h && Nat.beq (BQ ops h) 2 && !(Fe T i h)) (some (i,h)) none) []
structure Rec where
 want:Bool
 v:Value
 t:AF
 m:Mem
def HM(cf:FuncId->List Value->Mem->Option (Value×Mem))(n:Nat)(ops:List Oper):List Oper->AF->Mem->Option (List Rec×AF×Mem)
 | [],t,m=>some ([],t,m)
 |o::l,t,m=>if HL n o.dst=true then
   (if Region.wanted o (EY ops t)=true then
    (match Dr P K G cf t m o.op with
    |some (v,m')=>match HM cf n ops l (putD t o.dst v) m' with
     |some (rs,t',m'')=>some (⟨true,v,t,m⟩::rs,t',m'')
     |none=>none
    |none=>none)
   else match HM cf n ops l (putD t o.dst undef) m with
    |some (rs,t',m'')=>some (⟨false,undef,t,m⟩::rs,t',m'')
    |none=>none)else none
def Zv(rs:List Rec)(t':AF)(i:Nat):AF:=match rs[i]? with|some r=>r.t|none=>t'
def C8(rs:List Rec)(m':Mem)(i:Nat):Mem:=match rs[i]? with|some r=>r.m|none=>m'
def Lv(f:Value->Value->Bool):List Value->List Value->Bool
 | [],[]=>true
 |x::l,y::l'=>f x y && Lv f l l'
 |_,_=>false
def Ov:Nat->Value->Value->Bool
 |0,_,_=>false
 |d+1,x,y=>
  match x,y with
  | .bool a, .bool b=>a==b
  | .int k a, .int k' b=>decide (k=k') && decide (a=b)
  | .string a, .string b=>a.data.toList==b.data.toList
  | .pointer a, .pointer b=>decide (a=b)
  | .slice a n c, .slice a' n' c'=>decide (a=a') && Nat.beq n n' && Nat.beq c c'
  | .map a, .map b=>decide (a=b)
  | .func f a b, .func f' a' b'=>decide (f=f') && Lv (Ov d) a.toList a'.toList && Lv (Ov d) b.toList b'.toList
  | .nilFunc, .nilFunc=>true
  | .nilIface, .nilIface=>true
  | .agg a, .agg b=>Lv (Ov d) a.toList b.toList
  | .tuple a, .tuple b=>Lv (Ov d) a.toList b.toList
  |_,_=>false
def Zw:BI->BI->Bool
 | .cells o c, .cells o' c'=>(o==o') && Lv (Ov 8) c c'
 | .map o [] k, .map o' [] k'=>(o==o') && Nat.beq k k'
 |_,_=>false
def Hm(ops:List Oper)(rs:List Rec)(m':Mem)(x:Nat×Nat):Bool:=
 match rs[x.1]?,ops[x.1]? with
 |some r,some o=> !r.want||(match BV P K G r.t (C8 rs m' x.2) o.op with
  |some v=>Ov 8 v r.v
  |none=>false)
 |_,_=>false
def R9(rs:List Rec)(m':Mem)(x:Nat×Nat):Bool:=
 match rs[x.1]? with
 |some r=> !r.want||Zw ((C8 rs m' (x.2+1)).get r.m.size) ((C8 rs m' (x.1+1)).get r.m.size)
 |none=>false
def AV(cf:FuncId->List Value->Mem->Option (Value×Mem))(n:Nat)(ops:List Oper)(t:AF)(m:Mem):Option (AF×Mem):=
 if Lg ops (Cz ops [])=true then
  match HM P K G cf n ops ops t m with
  |some (rs,t',m')=>if(NG ops (Cz ops [])).all (Hm P K G ops rs m')=true then(if(NH ops (Cz ops [])).all (R9 rs m')=true then some (t',m')else none)else none
  |none=>none
 else none
def DH:Nat->FuncId->List Value->Mem->Option (Value×Mem)
 |0,_,_,_=>none
 |k+1,f,args,m=>match P.funcs[f]? with
  |some fn=>match fn.body with
   |some c=>match AI P K G (DH k) (AV P K G (DH k) (max args.length fn.ntmps)) (max args.length fn.ntmps) k c (G5 0 args) m with
    |some (.normal,t,m')=>match DK P t m' fn.results.toList with
     |some vs=>some (F6 vs,m')
     |none=>none
    |some (.ret,t,m')=>match DK P t m' fn.results.toList with
     |some vs=>some (F6 vs,m')
     |none=>none
    |_=>none
   |none=>none
  |none=>none
end
end Go.DI
namespace Go.DI
section
variable{P:Program}{K:TypeId->Bool}{G B0 n:Nat}{ι:Ren}{m:Mem}{w:World}{t u:AF}{a:Act}
theorem Zx{x:Operand}(h:∀d,x= .tmp d->t.at d=u.at d):ev G t x=ev G u x:=by
 cases x with
 |tmp d=>simp only[ev];rw[h d rfl]
 |const c=>rfl
 |global g=>rfl
 |func f=>rfl
theorem Fy:∀{l:List Operand},(∀x∈l,ev G t x=ev G u x)->evs G t l=evs G u l
 | [],_=>rfl
 |x::l,h=>by
  simp only[evs];rw[h x (by simp),Fy (l:=l) λy hy=>h y (by simp[hy])]
theorem Gl:∀{l:List (Nat×Operand)},(∀x∈l.map (·.2),ev G t x=ev G u x)->Fp G t l=Fp G u l
 | [],_=>rfl
 |(i,x)::l,h=>by
  simp only[Fp];rw[h x (by simp),Gl (l:=l) λy hy=>h y (by simp at hy ⊢;exact .inr hy)]
theorem IG{x:Option Operand}(h:∀y∈x.toList,ev G t y=ev G u y):JG G t x=JG G u x:=by
 cases x with
 |none=>rfl
 |some x=>simp only[JG];rw[h x (by simp)]
theorem QB{o:Op}(h:∀x∈IF o,ev G t x=ev G u x):BV P K G t m o=BV P K G u m o:=by
 cases o<;>simp only[IF]at h<;>simp only[BV]
 case move x=>exact h x (by simp)
 case assign x=>exact h x (by simp)
 case pick c x y=>rw[h c (by simp),h x (by simp),h y (by simp)]
 case load ty x=>rw[h x (by simp)]
 case nilCheck x=>rw[h x (by simp)]
 case binOp op ty x y yt=>rw[h x (by simp),h y (by simp)]
 case unOp op ty x=>rw[h x (by simp)]
 case makeFunc fn f c=>
  cases fn<;>simp only[BV];rw[Fy λx hx=>h x (by simp[Array.mem_toList_iff.1 hx]),Fy (l:=c.toList) λx hx=>h x (by simp[Array.mem_toList_iff.1 hx])]
 case fieldAddr s x f=>rw[h x (by simp)]
 case field s x f=>rw[h x (by simp)]
 case indexAddr s x i=>rw[h x (by simp),h i (by simp)]
 case index s x i=>rw[h x (by simp),h i (by simp)]
 case lookup s x k ok=>rw[h x (by simp),h k (by simp)]
 case extract x i=>rw[h x (by simp)]
 case convert s d x=>rw[h x (by simp)]
 case build ty ps=>rw[Gl h]
 case slice ty x lo hi mx=>
  rw[h x (by simp),IG (x:=lo) λy hy=>h y (by simp[hy]),IG (x:=hi) λy hy=>h y (by simp[hy]),IG (x:=mx) λy hy=>h y (by simp[hy])]
 case call c=>
  obtain⟨callee,args,tys⟩:=c;cases callee with
  |value f=>simp only[BV]
  |invoke r s=>simp only[BV]
  |builtin b=>
   cases b<;>simp only[BV]
   case len=>
    cases hl:args.toList with
    |nil=>rfl
    |cons x l=>
     have:=h x (by simp[hl]);cases l with
     |nil=>cases tys.toList with
      |nil=>rfl
      |cons y l'=>cases l' with
       |nil=>simp only[this]
       |cons z l''=>rfl
     |cons y l'=>rfl
   case min=>rw[Fy h]
   case max=>rw[Fy h]
theorem Lh{o:Op}(h:E1 o=false)(m₂:Mem):BV P K G t m o=BV P K G t m₂ o:=by
 cases o<;>simp only[E1]at h<;>simp only[BV] <;>try (simp at h;done)
 case makeFunc fn f c=>cases fn<;>simp only[BV]
 case call c=>
  obtain⟨callee,args,tys⟩:=c;cases callee with
  |value f=>simp only[BV]
  |invoke r s=>simp only[BV]
  |builtin b=>cases b<;>simp only[E1]at h<;>simp only[BV] <;>simp at h
theorem T9{m₂:Mem}(ht:m.top)(hg:∀b,b<m.size->m₂.get b=m.get b){o:Op}{v:Value}(h:BV P K G t m o=some v):BV P K G t m₂ o=some v:=by
 have hne:∀b,m.get b≠ .none->m₂.get b=m.get b:=λb hb=>by
  rcases Nat.lt_or_ge b m.size with h1|h1
  ·exact hg b h1
  ·exact absurd (ht b h1) hb
 have hload:∀(ty:TypeId) (x v:Value),EF P m ty x=some v->EF P m₂ ty x=some v:=by
  intro ty x v h;unfold EF at h ⊢;split at h<;>try (simp at h;done)
  rename_i b off;split at h<;>try (simp at h;done)
  ·split at h<;>try (simp at h;done)
   rename_i k _
   have:∀c,DB m b off k=some c->DB m₂ b off k=some c:=by
    intro c hc;unfold DB at hc ⊢;rw[hne b (by intro e;rw[e]at hc;simp at hc)];exact hc
   split at h<;>try (simp at h;done)
   rename_i c hc;simp only[this c hc];exact h
  ·rename_i hb;rw[hne b (by intro e;rw[e]at h;simp at h)];exact h
 have hent:∀(x:Value) (es:List MapEntry),F4 m x=some es->F4 m₂ x=some es:=by
  intro x es h;unfold F4 at h ⊢;split at h<;>try (simp at h;done)
  ·exact h
  ·rename_i r;rw[hne r (by intro e;rw[e]at h;simp at h)];exact h
 cases o
 case load ty x=>
  simp only[BV]at h ⊢;split at h<;>try (simp at h;done)
  rename_i u _;cases hl:EF P m ty u with
  |none=>rw[hl]at h;simp[T7]at h
  |some z=>rw[hload _ _ _ hl];rw[hl]at h;exact h
 case lookup s x k ok=>
  simp only[BV]at h ⊢;split at h<;>try (simp at h;done)
  unfold Ii at h ⊢;split at h<;>try (simp at h;done)
  split at h<;>try (simp at h;done)
  rename_i es hes;simp only[hent _ _ hes];exact h
 case convert s d x=>
  simp only[BV]at h ⊢;split at h<;>try (simp at h;done)
  have hlc:∀b off k c,DB m b off k=some c->DB m₂ b off k=some c:=by
   intro b off k c hc;unfold DB at hc ⊢;rw[hne b (by intro e;rw[e]at hc;simp at hc)];exact hc
  unfold IC at h ⊢;split at h<;>try (simp at h;done)
  ·exact h
  ·exact h
  ·split at h<;>try (simp at h;done)
   split at h<;>try (simp at h;done)
   ·exact h
   ·split at h<;>try (simp at h;done)
    rename_i c hc;simp only[hlc _ _ _ _ hc];exact h
 case call c=>
  obtain⟨callee,args,tys⟩:=c;cases callee with
  |value f=>simp only[BV]at h;simp at h
  |invoke r s=>simp only[BV]at h;simp at h
  |builtin b=>
   cases b<;>simp only[BV]at h ⊢ <;>try exact h
   case len=>
    split at h<;>try (simp at h;done)
    split at h<;>try (simp at h;done)
    unfold Xf at h ⊢;split at h<;>try (simp at h;done)
    ·exact h
    ·exact h
    ·exact h
    ·split at h<;>try (simp at h;done)
     ·exact h
     ·rename_i r _;rw[hne r (by intro e;rw[e]at h;simp at h)];exact h
 all_goals (rw[Lh (m₂:=m) rfl];exact h)
theorem QC{o:Op}(h:∀x∈IF o,ev G t x=ev G u x):Eo P G t o=Eo P G u o:=by
 cases o<;>simp only[IF]at h<;>simp only[Eo]
 case box e x=>rw[h x (by simp)]
 case buildSlice ty k ps=>rw[Gl h]
 case makeSlice ty l c=>rw[h l (by simp),h c (by simp)]
 case makeMap ty r=>
  cases r with
  |none=>rfl
  |some x=>simp only;rw[h x (by simp)]
theorem QD{cf:C7}{o:Op}(h:∀x∈IF o,ev G t x=ev G u x):Cv P K G cf t m o=Cv P K G cf u m o:=by
 cases o<;>simp only[IF]at h<;>simp only[Cv]
 case store ty x y=>rw[h x (by simp),h y (by simp)]
 case mapUpdate ty x k y=>rw[h x (by simp),h k (by simp),h y (by simp)]
 case insert ty x k y=>rw[h x (by simp),h k (by simp),h y (by simp)]
 case convert s d x=>rw[h x (by simp)]
 case call c=>
  obtain⟨callee,args,tys⟩:=c;cases callee with
  |value f=>
   simp only[IF]at h;simp only[Cv];rw[h f (by simp),Fy λx hx=>h x (by simp[Array.mem_toList_iff.1 hx])]
  |invoke r s=>simp only[Cv]
  |builtin b=>
   cases b<;>simp only[Cv]
   all_goals
    cases hl:args.toList with
    |nil=>rfl
    |cons x l=>
     have hx:=h x (by simp only[IF,hl];simp);cases l with
     |nil=>rfl
     |cons y l=>
      have hy:=h y (by simp only[IF,hl];simp);cases l<;>cases hT:tys.toList with
      |nil=>rfl
      |cons a b=>cases b with
       |nil=>rfl
       |cons c d=>cases d<;>simp only[hx,hy]
theorem Rel.restrict(hr:Rel B0 G ι m w){m₂:Mem}(ht:m₂.top)(hs:m₂.size<=m.size)(hg:∀b,b<m₂.size->m.get b=m₂.get b):Rel B0 G ι m₂ w:=by
 refine⟨λb L hb hL=>?_,λb₁ b₂ L₁ L₂ h1 h2 h3 h4 l1 l2 g0 e=>?_,hr.floor,hr.glob,ht⟩
 ·rw[←hg b hb];exact hr.blk b L (by omega) hL
 ·rw[←hg b₁ h1]at l1;rw[←hg b₂ h2]at l2;exact hr.inj b₁ b₂ L₁ L₂ (by omega) (by omega) h3 h4 l1 l2 g0 e
theorem LD{acc:List Nat}{i:Nat}:∀{l:List Edge},(Hh acc l).testBit i=true->∃e∈l,Region.binds .any e=true/\(e.on=i\/(acc.getD e.on 0).testBit i=true)
 | [],h=>by simp[Hh]at h
 |e::l,h=>by
  simp only[Hh]at h;cases hb:Region.binds .any e with
  |false=>
   rw[hb,cond_false]at h;obtain⟨e',h1,h2⟩:=LD h;exact⟨e',by simp[h1],h2⟩
  |true=>
   rw[hb,cond_true,Nat.testBit_or,Nat.testBit_or,Bool.or_eq_true,Bool.or_eq_true]at h;rcases h with h|h|h
   ·rw[Nat.testBit_two_pow]at h;exact⟨e,by simp,hb, .inl (by simpa using h)⟩
   ·exact⟨e,by simp,hb, .inr h⟩
   ·obtain⟨e',h1,h2⟩:=LD h;exact⟨e',by simp[h1],h2⟩
theorem Ow:∀(l:List Oper) (acc:List Nat),∃rest,Cz l acc=acc++rest/\rest.length=l.length/\∀j o,l[j]?=some o->rest[j]?=some (Hh (acc++rest.take j) o.after.toList)
 | [],acc=>⟨[],by simp[Cz],rfl,λj o h=>by simp at h⟩
 |o::l,acc=>by
  obtain⟨rest,h1,h2,h3⟩:=Ow l (acc++ [Hh acc o.after.toList]);refine⟨Hh acc o.after.toList::rest,by simp[Cz,h1],by simp[h2],λj o' hj=>?_⟩;cases j with
  |zero=>simp at hj;subst hj;simp
  |succ j=>
   have:=h3 j o' (by simpa using hj);simpa using this
theorem IH:∀(l:List Oper) (i:Nat),J8 l i=true->∀j o,l[j]?=some o->∀e∈o.after.toList,Region.binds .any e=true->e.on<i+j
 | [],i,h,j,o,hj,_,_,_=>by simp at hj
 |x::l,i,h,j,o,hj,e,he,hb=>by
  simp only[J8,Bool.and_eq_true,List.all_eq_true]at h;cases j with
  |zero=>
   simp at hj;subst hj;have:=h.1 e he;rw[hb]at this;simp at this;have h2:e.on<i:=by simpa[Nat.blt]using this
   omega
  |succ j=>
   have:=IH l (i+1) h.2 j o (by simpa using hj) e he hb;omega
theorem ni{ops:List Oper}(hE:J8 ops 0=true){X:Nat->Prop}(D:∀j o,ops[j]?=some o->X j->∀e∈o.after.toList,Region.binds .any e=true->X e.on):
  ∀(j:Nat) (o:Oper),ops[j]?=some o->(∀e∈o.after.toList,Region.binds .any e=true->X e.on)->∀i,Fe (Cz ops []) i j=true->X i:=by
 obtain⟨rest,h1,h2,h3⟩:=Ow ops []
 simp only[List.nil_append]at h1 h3
 intro j
 induction j using Nat.strongRecOn with
 |_ j ih=>
  intro o ho hx i hi;unfold Fe at hi;rw[h1]at hi;have h4:=h3 j o ho;rw[List.getD_eq_getElem?_getD,h4,Option.getD_some]at hi;obtain⟨e,he,hb,hcase⟩:=LD hi;have hlt:=IH ops 0 hE j o ho e he hb;have hxe:=hx e he hb;rcases hcase with h5|h5
  ·rw[←h5];exact hxe
  ·have hej:e.on<j:=by omega
   have e1:(rest.take j).getD e.on 0=rest.getD e.on 0:=by
    rw[List.getD_eq_getElem?_getD,List.getD_eq_getElem?_getD,List.getElem?_take];simp[hej]
   rw[e1]at h5
   have hlen:j<ops.length:=by
    rcases Nat.lt_or_ge j ops.length with h6|h6
    ·exact h6
    ·rw[List.getElem?_eq_none h6]at ho;cases ho
   obtain⟨oe,hoe⟩:∃oe,ops[e.on]?=some oe:=⟨ops[e.on],by simp⟩;exact ih e.on hej oe hoe (D _ _ hoe hxe) i (by unfold Fe;rw[h1];exact h5)
theorem HN{cf:C7}{ops:List Oper}:∀(l:List Oper) (t:AF) (m:Mem) (rs:List Rec) (t':AF) (m':Mem),HM P K G cf n ops l t m=some (rs,t',m')->
  rs.length=l.length/\Zv rs t' 0=t/\C8 rs m' 0=m/\∀i o,l[i]?=some o->∃r,rs[i]?=some r/\HL n o.dst=true/\r.want=Region.wanted o (EY ops r.t)/\
   Zv rs t' (i+1)=putD r.t o.dst r.v/\(r.want=true->Dr P K G cf r.t r.m o.op=some (r.v,C8 rs m' (i+1)))/\(r.want=false->r.v=undef/\C8 rs m' (i+1)=r.m)
 | [],t,m,rs,t',m',h=>by
  simp[HM]at h;obtain⟨rfl,rfl,rfl⟩:=h;exact⟨rfl,rfl,rfl,λi o hi=>by simp at hi⟩
 |o::l,t,m,rs,t',m',h=>by
  simp only[HM]at h;split at h<;>try (simp at h;done)
  rename_i hd;split at h
  ·rename_i hw;split at h<;>try (simp at h;done)
   rename_i v m₁ hv;split at h<;>simp at h;rename_i rs₁ t₁ m₂ h1;obtain⟨rfl,rfl,rfl⟩:=h;obtain⟨g1,g2,g3,g4⟩:=HN l _ _ _ _ _ h1;refine⟨by simp[g1],rfl,rfl,λi o' hi=>?_⟩;cases i with
   |zero=>
    simp at hi;subst hi;refine⟨_,rfl,hd,hw.symm,?_,λ_=>?_,λh=>by cases h⟩
    ·exact g2
    ·rw[hv];congr 2;exact g3.symm
   |succ i=>exact g4 i o' (by simpa using hi)
  ·rename_i hw;split at h<;>simp at h;rename_i rs₁ t₁ m₂ h1;obtain⟨rfl,rfl,rfl⟩:=h;obtain⟨g1,g2,g3,g4⟩:=HN l _ _ _ _ _ h1;refine⟨by simp[g1],rfl,rfl,λi o' hi=>?_⟩;cases i with
   |zero=>
    simp at hi;subst hi;refine⟨_,rfl,hd,?_,g2,?_,?_⟩
    ·simpa using hw
    ·intro h;cases h
    ·intro _;exact⟨rfl,g3⟩
   |succ i=>exact g4 i o' (by simpa using hi)
theorem Ij{f:Value->Value->Bool}(hf:∀x y,f x y=true->x=y):∀{l l':List Value},Lv f l l'=true->l=l'
 | [],[],_=>rfl
 |x::l,y::l',h=>by
  simp only[Lv,Bool.and_eq_true]at h;rw[hf _ _ h.1,Ij hf h.2]
 | [],_::_,h=>by simp[Lv]at h
 |_::_,[],h=>by simp[Lv]at h
theorem Ta:∀(d:Nat) (x y:Value),Ov d x y=true->x=y
 |0,x,y,h=>by simp[Ov]at h
 |d+1,x,y,h=>by
  have ih:=Ta d;cases x<;>cases y<;>simp only[Ov]at h<;>try (simp at h;done)
  case bool a b=>simp at h;rw[h]
  case int k a k' b=>simp at h;rw[h.1,h.2]
  case string a b=>
   obtain⟨⟨a⟩⟩:=a;obtain⟨⟨b⟩⟩:=b;simp at h;rw[h]
  case pointer a b=>simp at h;rw[h]
  case slice a k c a' k' c'=>
   simp only[Bool.and_eq_true,decide_eq_true_eq]at h;rw[h.1.1,Nat.eq_of_beq_eq_true h.1.2,Nat.eq_of_beq_eq_true h.2]
  case map a b=>simp at h;rw[h]
  case func f a b f' a' b'=>
   simp only[Bool.and_eq_true,decide_eq_true_eq]at h;rw[h.1.1,Array.ext' (Ij ih h.1.2),Array.ext' (Ij ih h.2)]
  case nilFunc=>rfl
  case nilIface=>rfl
  case agg a b=>rw[Array.ext' (Ij ih h)]
  case tuple a b=>rw[Array.ext' (Ij ih h)]
theorem Zy{x y:BI}(h:Zw x y=true):x=y:=by
 unfold Zw at h
 split at h
 ·simp only[Bool.and_eq_true,beq_iff_eq]at h;rw[h.1,Ij (Ta 8) h.2]
 ·simp only[Bool.and_eq_true,beq_iff_eq]at h;rw[h.1,Nat.eq_of_beq_eq_true h.2]
 ·simp at h
end
end Go.DI
namespace Go.DI
section
variable{P:Program}{K:TypeId->Bool}{G B0 n:Nat}
def FB(ops:List Oper)(k:Nat):Option Tmp:=match ops[k]? with|some o=>o.dst|none=>none
def Fj(rs:List Rec)(k:Nat):Value:=match rs[k]? with|some r=>r.v|none=>undef
def Ff(rs:List Rec)(k:Nat):Bool:=match rs[k]? with|some r=>r.want|none=>false
def DQ(ops:List Oper)(rs:List Rec)(t:AF)(X:Nat->Bool):Nat->AF
 |0=>t
 |k+1=>if X k=true then putD (DQ ops rs t X k) (FB ops k) (Fj rs k)else DQ ops rs t X k
theorem G7(t:AF)(dst:Option Tmp)(v:Value)(d:Tmp):(putD t dst v).at d=if dst=some d then v else t.at d:=by
 cases dst with
 |none=>simp[putD]
 |some e=>
  simp only[putD,AF.at_set,Option.some.injEq];by_cases h:d=e
  ·simp[h]
  ·have:¬e=d:=λh'=>h h'.symm;simp[h,this]
theorem Be.congr{ι:Ren}{t u:AF}{a:Act}(h:∀d,t.at d=u.at d)(ht:Be ι n t a):Be ι n u a:=⟨ht.1,λd=>by rw[←h d];exact ht.2 d⟩
theorem Tb{ops:List Oper}{rs:List Rec}{t:AF}{X:Nat->Bool}{d:Tmp}{j N:Nat}(hj:j<=N)(h1:∀k,k<j->FB ops k=some d->X k=true)(h2:∀k,j<=k->k<N->FB ops k=some d->X k=false):
  (DQ ops rs t X N).at d=(DQ ops rs t (λ_=>true) j).at d:=by
 have A:∀k,k<=j->(DQ ops rs t X k).at d=(DQ ops rs t (λ_=>true) k).at d:=by
  intro k;induction k with
  |zero=>intro _;rfl
  |succ k ih=>
   intro hk;have ih:=ih (by omega);simp only[DQ,if_true];rw[G7];by_cases hd:FB ops k=some d
   ·rw[if_pos (h1 k (by omega) hd),G7,if_pos hd,if_pos hd]
   ·rw[if_neg hd];split
    ·rw[G7,if_neg hd];exact ih
    ·exact ih
 have B:∀k,j+k<=N->(DQ ops rs t X (j+k)).at d=(DQ ops rs t X j).at d:=by
  intro k;induction k with
  |zero=>intro _;rfl
  |succ k ih=>
   intro hk;rw[←ih (by omega)];show(DQ ops rs t X ((j+k)+1)).at d=_;simp only[DQ];split
   ·rename_i hx;rw[G7];split
    ·rename_i hd;rw[h2 (j+k) (by omega) (by omega) hd]at hx;cases hx
    ·rfl
   ·rfl
 have:=B (N - j) (by omega)
 rw[show j+(N - j)=N by omega]at this
 rw[this,A j (Nat.le_refl _)]
theorem Zz{ops:List Oper}{rs:List Rec}{t:AF}{X X':Nat->Bool}{i N:Nat}(hi:i<N)(hx:X i=false)(hx':X' i=true)(hne:∀k,k≠i->X' k=X k)
  (h:∀k d,i<k->k<N->FB ops k=some d->FB ops i=some d->X k=false) (d:Tmp):(DQ ops rs t X' N).at d=(putD (DQ ops rs t X N) (FB ops i) (Fj rs i)).at d:=by
 have A:∀k,k<=i->DQ ops rs t X' k=DQ ops rs t X k:=by
  intro k;induction k with
  |zero=>intro _;rfl
  |succ k ih=>
   intro hk;simp only[DQ];rw[ih (by omega),hne k (by omega)]
 have B:∀k,i+1+k<=N->(DQ ops rs t X' (i+1+k)).at d=if FB ops i=some d then Fj rs i else(DQ ops rs t X (i+1+k)).at d:=by
  intro k;induction k with
  |zero=>
   intro _;simp only[Nat.add_zero,DQ,hx',hx,if_true,Bool.false_eq_true,if_false];rw[G7,A i (Nat.le_refl _)]
  |succ k ih=>
   intro hk;have ih:=ih (by omega);show(DQ ops rs t X' ((i+1+k)+1)).at d=if FB ops i=some d then Fj rs i else(DQ ops rs t X ((i+1+k)+1)).at d;simp only[DQ];rw[hne (i+1+k) (by omega)];split
   ·rename_i hxk;rw[G7,G7,ih];by_cases hd:FB ops (i+1+k)=some d
    ·rw[if_pos hd,if_pos hd];split
     ·rename_i hdi;rw[h _ d (by omega) (by omega) hd hdi]at hxk;cases hxk
     ·rfl
    ·rw[if_neg hd,if_neg hd]
   ·exact ih
 have:=B (N - (i+1)) (by omega)
 rw[show i+1+(N - (i+1))=N by omega]at this
 rw[this,G7]
theorem Rel.lay{ι:Ren}{M M':Mem}{w:World}{b0 k:Nat}{x:BI}{ob:Obj}(hr:Rel B0 G ι M w)(hb0:b0<M.size)(hn:ι b0=none)(hsz:M'.size=M.size)(hg0:M'.get b0=x)(hg:∀b,b≠b0->M'.get b=M.get b)
  (hnew:Bg B0 (λb=>if b=b0 then some ⟨w.heap.size,0,k⟩else ι b) x ⟨w.heap.size,0,k⟩ (w.alloc ob)):
  Rel B0 G (λb=>if b=b0 then some ⟨w.heap.size,0,k⟩else ι b) M' (w.alloc ob):=by
 have hle:ι.le (λb=>if b=b0 then some ⟨w.heap.size,0,k⟩else ι b):=by
  intro b L hb;have:b≠b0:=by intro e;rw[e,hn]at hb;cases hb
  simp[this,hb]
 have hold:∀B,B<w.heap.size->(w.alloc ob).heap[B]?=w.heap[B]?:=λB hB=>by
  show(w.heap.push ob)[B]?=_;rw[Array.getElem?_push,if_neg (by omega)]
 refine⟨λb L hb hL=>?_,λb₁ b₂ L₁ L₂ h1 h2 h3 h4 l1 l2 g0 e=>?_,by simp;have:=hr.floor;omega,λg hg'=>?_,λb hb=>?_⟩
 ·by_cases e:b=b0
  ·subst e;simp at hL;subst hL;rw[hg0];exact hnew
  ·simp only[e,if_false]at hL;rw[hg b e];exact(hr.blk b L (by omega) hL).monoL hle (λhl=>hold _ (hr.old b L hL hl))
 ·by_cases e1:b₁=b0
  ·by_cases e2:b₂=b0
   ·omega
   ·simp[e1]at h3;simp[e2]at h4;subst h3;rw[hg _ e2]at l2;have:=hr.old _ _ h4 l2;simp at e;omega
  ·by_cases e2:b₂=b0
   ·simp[e1]at h3;simp[e2]at h4;subst h4;rw[hg _ e1]at l1;have:=hr.old _ _ h3 l1;simp at e;omega
   ·simp[e1]at h3;simp[e2]at h4;rw[hg _ e1]at l1;rw[hg _ e2]at l2;exact hr.inj b₁ b₂ L₁ L₂ (by omega) (by omega) h3 h4 l1 l2 g0 e
 ·obtain⟨L,h1,h2⟩:=hr.glob g hg';exact⟨L,hle _ _ h1,h2⟩
 ·rw[hg b (by omega)];exact hr.top b (by omega)
theorem EP.inner{ι0 ι ι':Ren}{m M M' Ms Ms1:Mem}{w0 w w':World}(h:EP ι0 ι m M w0 w)(k:EP ι ι' Ms Ms1 w w')(h1:m.size<=Ms.size)(h2:Ms1.size<=M.size)(h3:∀b,b<Ms.size->M.get b=Ms.get b)(h4:M'.size=M.size)
  (h5:∀b,b<m.size->M'.get b=Ms1.get b):EP ι0 ι' m M' w0 w':=by
 have kms:=k.msize
 refine⟨λb L hb=>k.ext _ _ (h.ext _ _ hb),λb hb=>?_,k.os.trans h.os,k.output.trans h.output,k.tape.trans h.tape,Nat.le_trans h.hsize k.hsize,λB hB hn=>?_,λb L g1 g2 hb=>?_,by rw[h4];exact h.msize,λb hb ho=>?_⟩
 ·rw[k.out b (by omega),h.out b (by omega)]
 ·rw[k.frame B (Nat.lt_of_lt_of_le hB h.hsize) ?_,h.frame B hB hn];intro b L hb hL ho;rw[←h3 b hb]at ho;rcases Nat.lt_or_ge b m.size with hlt|hge
  ·rw[h.out b (.inl hlt)]at hL;exact hn b L hlt hL (h.ownk b hlt ho)
  ·rcases h.new b L hge (by omega) hL with g|⟨b0,L0,g1,g2,g3,g4⟩
   ·omega
   ·rw[←g4];exact hn b0 L0 g1 g2 g3
 ·rw[h4]at g2;by_cases hc:Ms.size<=b/\b<Ms1.size
  ·rcases k.new b L hc.1 hc.2 hb with g|⟨b0,L0,q1,q2,q3,q4⟩
   ·exact .inl (Nat.le_trans h.hsize g)
   ·rw[←h3 b0 q1]at q3;rcases Nat.lt_or_ge b0 m.size with hlt|hge
    ·rw[h.out b0 (.inl hlt)]at q2;exact .inr ⟨b0,L0,hlt,q2,h.ownk b0 hlt q3,q4⟩
    ·rcases h.new b0 L0 hge (by omega) q2 with g|⟨b1,L1,k1,k2,k3,k4⟩
     ·exact .inl (q4▸g)
     ·exact .inr ⟨b1,L1,k1,k2,k3,k4.trans q4⟩
  ·rw[k.out b (by omega)]at hb;exact h.new b L g1 g2 hb
 ·rw[h5 b hb]at ho;have:=k.ownk b (by omega) ho;rw[←h3 b (by omega)]at this;exact h.ownk b hb this
structure Lw(P:Program)(K:TypeId->Bool)(G n:Nat)(cf:C7)(ops:List Oper)(t:AF)(m:Mem)(rs:List Rec)(t':AF)(m':Mem):Prop where
 eq:HM P K G cf n ops ops t m=some (rs,t',m')
 grw:B5 cf
 top:m.top
theorem Lw.len{cf:C7}{ops:List Oper}{t t':AF}{m m':Mem}{rs:List Rec}(R:Lw P K G n cf ops t m rs t' m'):rs.length=ops.length:=(HN _ _ _ _ _ _ R.eq).1
theorem Lw.zero{cf:C7}{ops:List Oper}{t t':AF}{m m':Mem}{rs:List Rec}(R:Lw P K G n cf ops t m rs t' m'):C8 rs m' 0=m:=(HN _ _ _ _ _ _ R.eq).2.2.1
theorem Lw.last{cf:C7}{ops:List Oper}{t t':AF}{m m':Mem}{rs:List Rec}(R:Lw P K G n cf ops t m rs t' m'):C8 rs m' ops.length=m':=by
 unfold C8;rw[List.getElem?_eq_none (by rw[R.len];exact Nat.le_refl _)]
theorem Lw.step{cf:C7}{ops:List Oper}{t t':AF}{m m':Mem}{rs:List Rec}(R:Lw P K G n cf ops t m rs t' m'){i:Nat}{o:Oper}(ho:ops[i]?=some o):
  ∃r,rs[i]?=some r/\r.t=DQ ops rs t (λ_=>true) i/\r.m=C8 rs m' i/\HL n o.dst=true/\r.want=Region.wanted o (EY ops r.t)/\
   (r.want=true->Dr P K G cf r.t r.m o.op=some (r.v,C8 rs m' (i+1)))/\(r.want=false->r.v=undef/\C8 rs m' (i+1)=r.m):=by
 obtain⟨g1,g2,g3,g4⟩:=HN _ _ _ _ _ _ R.eq
 have ht:∀k,k<=ops.length->Zv rs t' k=DQ ops rs t (λ_=>true) k:=by
  intro k;induction k with
  |zero=>intro _;exact g2
  |succ k ih=>
   intro hk;have ih:=ih (by omega);obtain⟨o',ho'⟩:∃o',ops[k]?=some o':=⟨ops[k],by simp⟩;obtain⟨r,h1,h2,h3,h4,_⟩:=g4 k o' ho';rw[h4];simp only[DQ,if_true,FB,ho',Fj,h1];rw[←ih];simp only[Zv,h1]
 obtain⟨r,h1,h2,h3,h4,h5,h6⟩:=g4 i o ho
 have hi:i<ops.length:=by
  rcases Nat.lt_or_ge i ops.length with h|h
  ·exact h
  ·rw[List.getElem?_eq_none h]at ho;cases ho
 refine⟨r,h1,?_,?_,h2,h3,h5,h6⟩
 ·rw[←ht i (by omega)];simp only[Zv,h1]
 ·simp only[C8,h1]
theorem Lw.grow1{cf:C7}{ops:List Oper}{t t':AF}{m m':Mem}{rs:List Rec}(R:Lw P K G n cf ops t m rs t' m'){i:Nat}(hi:i<ops.length):EL (C8 rs m' i) (C8 rs m' (i+1)):=by
 obtain⟨r,h1,h2,h3,h4,h5,h6,h7⟩:=R.step (i:=i) (o:=ops[i]) (by simp)
 rw[←h3]
 cases hw:r.want with
 |true=>exact QE R.grw (h6 hw)
 |false=>rw[(h7 hw).2];exact EL.refl _
theorem Lw.grow{cf:C7}{ops:List Oper}{t t':AF}{m m':Mem}{rs:List Rec}(R:Lw P K G n cf ops t m rs t' m'){i:Nat}:∀k,i+k<=ops.length->EL (C8 rs m' i) (C8 rs m' (i+k))
 |0,_=>EL.refl _
 |k+1,h=>(R.grow k (by omega)).trans (R.grow1 (by omega))
theorem Lw.mono{cf:C7}{ops:List Oper}{t t':AF}{m m':Mem}{rs:List Rec}(R:Lw P K G n cf ops t m rs t' m'){i j:Nat}(h:i<=j)(hj:j<=ops.length):EL (C8 rs m' i) (C8 rs m' j):=by
 have:=R.grow (i:=i) (j - i) (by omega)
 rw[show i+(j - i)=j by omega]at this
 exact this
theorem Lw.topAt{cf:C7}{ops:List Oper}{t t':AF}{m m':Mem}{rs:List Rec}(R:Lw P K G n cf ops t m rs t' m'){i:Nat}(h:i<=ops.length):(C8 rs m' i).top:=by
 have:=(R.mono (Nat.zero_le i) h).top
 rw[R.zero]at this
 exact this R.top
theorem Li(o:Op):Bd o=0\/Bd o=1\/Bd o=2:=by
 unfold Bd;split<;>simp
theorem Lw.light{cf:C7}{ops:List Oper}{t t':AF}{m m':Mem}{rs:List Rec}(R:Lw P K G n cf ops t m rs t' m'){i:Nat}(hi:i<ops.length)(hk:BQ ops i≠2):
  (C8 rs m' (i+1)=C8 rs m' i/\(BQ ops i=1->Ff rs i=false))\/(BQ ops i=1/\Ff rs i=true/\∃x q,Eo P G (DQ ops rs t (λ_=>true) i) ops[i].op=some (x,q)/\Fj rs i=q.val (C8 rs m' i).size/\C8 rs m' (i+1)=(C8 rs m' i).push x):=by
 obtain⟨r,h1,h2,h3,h4,h5,h6,h7⟩:=R.step (i:=i) (o:=ops[i]) (by simp)
 have hka:BQ ops i=Bd ops[i].op:=by simp[BQ,hi]
 have hv:Fj rs i=r.v:=by simp[Fj,h1]
 have hwt:Ff rs i=r.want:=by simp[Ff,h1]
 cases hw:r.want with
 |false=>exact .inl ⟨by rw[(h7 hw).2,h3],λ_=>by rw[hwt,hw]⟩
 |true=>
  have h8:=h6 hw;unfold Dr at h8;rw[hka]at hk ⊢;rcases Li ops[i].op with hc|hc|hc
  ·rw[hc]at h8;simp only at h8;split at h8<;>simp at h8;exact .inl ⟨by rw[←h8.2,h3],λh=>by rw[hc]at h;cases h⟩
  ·rw[hc]at h8;simp only at h8;split at h8<;>simp at h8;rename_i x q hx;refine .inr ⟨hc,by rw[hwt,hw],x,q,by rw[←h2];exact hx,by rw[hv,←h8.1,h3],by rw[←h8.2,h3]⟩
  ·exact absurd hc hk
theorem Lw.lightGet{cf:C7}{ops:List Oper}{t t':AF}{m m':Mem}{rs:List Rec}(R:Lw P K G n cf ops t m rs t' m'){i:Nat}:∀k,i+k<=ops.length->(∀h,i<=h->h<i+k->BQ ops h≠2)->
  ∀b,b< (C8 rs m' i).size->(C8 rs m' (i+k)).get b=(C8 rs m' i).get b
 |0,_,_,b,hb=>rfl
 |k+1,h,hl,b,hb=>by
  have ih:=R.lightGet k (by omega) (λh g1 g2=>hl h g1 (by omega)) b hb;have hsz:=(R.mono (i:=i) (j:=i+k) (by omega) (by omega)).size;show(C8 rs m' ((i+k)+1)).get b=_;rcases R.light (i:=i+k) (by omega) (hl _ (by omega) (by omega))with⟨e,_⟩|⟨_,_,x,q,_,_,e⟩
  ·rw[e];exact ih
  ·rw[e,Mem.get_push_ne _ (by omega)];exact ih
theorem Lw.kept{cf:C7}{ops:List Oper}{t t':AF}{m m':Mem}{rs:List Rec}(R:Lw P K G n cf ops t m rs t' m'){i j:Nat}(hij:i<=j)(hj:j<=ops.length)(hl:∀h,i<=h->h<j->BQ ops h≠2):
  ∀b,b< (C8 rs m' i).size->(C8 rs m' j).get b=(C8 rs m' i).get b:=by
 have:=R.lightGet (i:=i) (j - i) (by omega) (λh g1 g2=>hl h g1 (by omega))
 rw[show i+(j - i)=j by omega]at this
 exact this
theorem J9(ops:List Oper):∀(k i:Nat),i+k=ops.length->∃s,i<=s/\s<=ops.length/\(s<ops.length->BQ ops s=2)/\∀h,i<=h->h<s->BQ ops h≠2
 |0,i,h=>⟨i,Nat.le_refl _,by omega,λh'=>by omega,λh' g1 g2=>by omega⟩
 |k+1,i,h=>by
  by_cases hk:BQ ops i=2
  ·exact⟨i,Nat.le_refl _,by omega,λ_=>hk,λh' g1 g2=>by omega⟩
  ·obtain⟨s,h1,h2,h3,h4⟩:=J9 ops k (i+1) (by omega);refine⟨s,by omega,h2,h3,λh' g1 g2=>?_⟩;by_cases e:h'=i
   ·rw[e];exact hk
   ·exact h4 h' (by omega) g2
theorem Lw.owner{cf:C7}{ops:List Oper}{t t':AF}{m m':Mem}{rs:List Rec}(R:Lw P K G n cf ops t m rs t' m'){i:Nat}:∀k,i+k<=ops.length->∀b,(C8 rs m' i).size<=b->b< (C8 rs m' (i+k)).size->
  ∃j,i<=j/\j<i+k/\(C8 rs m' j).size<=b/\b< (C8 rs m' (j+1)).size
 |0,_,b,h1,h2=>by simp at h2;omega
 |k+1,h,b,h1,h2=>by
  rcases Nat.lt_or_ge b (C8 rs m' (i+k)).size with hlt|hge
  ·obtain⟨j,g1,g2,g3,g4⟩:=R.owner k (by omega) b h1 hlt;exact⟨j,g1,by omega,g3,g4⟩
  ·exact⟨i+k,by omega,by omega,hge,h2⟩
end
end Go.DI
namespace Go.DI
section
variable{P:Program}{K:TypeId->Bool}{G B0 n:Nat}{cf:C7}{ops:Array Oper}{t t':AF}{m m':Mem}{rs:List Rec}
structure Lx(P:Program)(K:TypeId->Bool)(G B0 n:Nat)(cf:C7)(ops:Array Oper)(t:AF)(m:Mem)(rs:List Rec)(t':AF)(m':Mem):Prop where
 hK:Plain P K
 hcf:CR P B0 G cf
 run:Lw P K G n cf ops.toList t m rs t' m'
 stat:Lg ops.toList (Cz ops.toList [])=true
 c1:(NG ops.toList (Cz ops.toList [])).all (Hm P K G ops.toList rs m')=true
 c2:(NH ops.toList (Cz ops.toList [])).all (R9 rs m')=true
theorem Lx.edges(R:Lx P K G B0 n cf ops t m rs t' m'):J8 ops.toList 0=true:=by
 have:=R.stat
 simp only[Lg,Bool.and_eq_true]at this
 exact this.1
theorem Lx.pair(R:Lx P K G B0 n cf ops t m rs t' m'){i j:Nat}(hi:i<ops.size)(hj:j<ops.size):NF ops.toList (Cz ops.toList []) i j=true:=by
 have:=R.stat
 simp only[Lg,Bool.and_eq_true,List.all_eq_true,List.mem_range]at this
 exact this.2 i (by simpa using hi) j (by simpa using hj)
theorem KM{a b:Nat}:Nat.blt a b=true↔a<b:=by
 unfold Nat.blt;rw[Nat.ble_eq];exact Iff.rfl
theorem Lx.sep(R:Lx P K G B0 n cf ops t m rs t' m'){i j:Nat}{x y:Oper}{d:Tmp}(hx:ops[i]?=some x)(hy:ops[j]?=some y)(hne:i≠j)(hd:x.dst=some d)(h:d∈H0 ops.toList y\/y.dst=some d):
  (i<j->Fe (Cz ops.toList []) i j=true)/\(j<i->Fe (Cz ops.toList []) j i=true):=by
 have hi:i<ops.size:=(Array.getElem?_eq_some_iff.1 hx).1
 have hj:j<ops.size:=(Array.getElem?_eq_some_iff.1 hy).1
 have:=R.pair hi hj
 unfold NF at this
 simp only[Array.getElem?_toList,hx,hy,hd,Bool.and_eq_true,Bool.or_eq_true]at this
 obtain⟨h1,_⟩:=this
 rcases h1 with(h1|h1)|h1
 ·exact absurd (Nat.eq_of_beq_eq_true h1) hne
 ·have hc:((H0 ops.toList y).contains d||y.dst==some d)=true:=by
   rcases h with h|h
   ·simp[h]
   ·simp[h]
  rw[hc]at h1;simp at h1
 ·refine⟨λhlt=>?_,λhlt=>?_⟩
  ·rw[KM.2 hlt]at h1;exact h1
  ·have:Nat.blt i j=false:=by
    cases hb:Nat.blt i j with
    |false=>rfl
    |true=>have:=KM.1 hb;omega
   rw[this]at h1;exact h1
theorem Lx.heavy(R:Lx P K G B0 n cf ops t m rs t' m'){i j:Nat}(hi:i<ops.size)(hj:j<ops.size)(h1:BQ ops.toList i=2)(h2:BQ ops.toList j=2)(hlt:i<j):Fe (Cz ops.toList []) i j=true:=by
 have:=R.pair hi hj
 unfold NF at this
 simp only[BQ,Array.getElem?_toList,Array.getElem?_eq_getElem hi,Array.getElem?_eq_getElem hj]at h1 h2
 simp only[Array.getElem?_toList,Array.getElem?_eq_getElem hi,Array.getElem?_eq_getElem hj,Bool.and_eq_true,Bool.or_eq_true]at this
 obtain⟨_,h3⟩:=this
 rcases h3 with h3|h3
 ·rw[h1,h2,KM.2 hlt]at h3;simp at h3
 ·exact h3
structure Inv(P:Program)(B0 G n:Nat)(ops:Array Oper)(t:AF)(m:Mem)(rs:List Rec)(m':Mem)(ι0:Ren)(w0:World)(a0:Act)(X:Nat->Bool)(ι:Ren)(M:Mem)(s:Nat)(a:Act)(w:World):Prop where
 tr:Be ι n (DQ ops.toList rs t X ops.size) a
 sN:s<=ops.size
 sh:s<ops.size->BQ ops.toList s=2/\X s=false
 sb:∀h,h<s->BQ ops.toList h=2->X h=true
 msz:M.size=(C8 rs m' ops.size).size
 g1:∀b,b< (C8 rs m' s).size->M.get b=(C8 rs m' s).get b
 g2:∀i,s<i->i<ops.size->BQ ops.toList i=1->Ff rs i=true->X i=true->M.get (C8 rs m' i).size=(C8 rs m' (i+1)).get (C8 rs m' i).size
 jn:∀i,i<ops.size->X i=false->∀b,(C8 rs m' i).size<=b->b< (C8 rs m' (i+1)).size->ι b=none
 rel:Rel B0 G ι M w
 stp:EP ι0 ι m M w0 w
 dfr:a.defers=a0.defers
def VQ(ops:Array Oper)(X:Nat->Bool):Prop:=∀(j:Nat) (o:Oper),ops.toList[j]?=some o->X j=true->∀e∈o.after.toList,Region.binds .any e=true->X e.on=true
def Fq(X:Nat->Bool)(i:Nat):Nat->Bool:=λk=>if k=i then true else X k
variable{ι0 ι:Ren}{M:Mem}{w0 w:World}{a0 a:Act}{X:Nat->Bool}{s i:Nat}{o:Oper}
theorem Lx.ready(R:Lx P K G B0 n cf ops t m rs t' m')(hC:VQ ops X)(ho:ops[i]?=some o)(hr:∀e∈o.after.toList,Region.binds .any e=true->X e.on=true):∀k,Fe (Cz ops.toList []) k i=true->X k=true:=
 ni (X:=λk=>X k=true) R.edges (λj o' hj hx e he hb=>hC j o' hj hx e he hb) i o (by simpa using ho) hr
theorem Lx.closed(R:Lx P K G B0 n cf ops t m rs t' m')(hC:VQ ops X){j:Nat}(hj:j<ops.size)(hx:X j=true):∀k,Fe (Cz ops.toList []) k j=true->X k=true:=by
 have ho:ops[j]?=some ops[j]:=Array.getElem?_eq_getElem hj
 exact R.ready hC ho (λe he hb=>hC j _ (by simp) hx e he hb)
theorem Inv.looks(R:Lx P K G B0 n cf ops t m rs t' m')(hC:VQ ops X)(ho:ops[i]?=some o)(hr:∀e∈o.after.toList,Region.binds .any e=true->X e.on=true)(hx:X i=false){d:Tmp}(hd:d∈H0 ops.toList o):
  (DQ ops.toList rs t X ops.size).at d=(DQ ops.toList rs t (λ_=>true) i).at d:=by
 have hi:i<ops.size:=(Array.getElem?_eq_some_iff.1 ho).1
 refine Tb (by omega) (λk hk hdk=>?_) (λk hk hkN hdk=>?_)
 ·have hko:ops[k]?=some ops[k]:=Array.getElem?_eq_getElem (by omega);simp only[FB,Array.getElem?_toList,hko]at hdk;exact R.ready hC ho hr k ((R.sep hko ho (by omega) hdk (.inl hd)).1 hk)
 ·by_cases e:k=i
  ·rw[e];exact hx
  ·have hko:ops[k]?=some ops[k]:=Array.getElem?_eq_getElem hkN;simp only[FB,Array.getElem?_toList,hko]at hdk;have hb:=(R.sep hko ho (by omega) hdk (.inl hd)).2 (by omega);cases hxk:X k with
   |false=>rfl
   |true=>have:=R.closed hC hkN hxk i hb;rw[hx]at this;cases this
theorem Inv.evs(R:Lx P K G B0 n cf ops t m rs t' m')(hC:VQ ops X)(ho:ops[i]?=some o)(hr:∀e∈o.after.toList,Region.binds .any e=true->X e.on=true)(hx:X i=false):
  ∀x∈IF o.op,ev G (DQ ops.toList rs t X ops.size) x=ev G (DQ ops.toList rs t (λ_=>true) i) x:=by
 intro x hxm
 refine Zx λd hd=>Inv.looks R hC ho hr hx ?_
 subst hd
 exact List.mem_append_left _ (List.mem_filterMap.2 ⟨.tmp d,hxm,rfl⟩)
theorem Inv.want(R:Lx P K G B0 n cf ops t m rs t' m')(hC:VQ ops X)(hI:Inv P B0 G n ops t m rs m' ι0 w0 a0 X ι M s a w)(ho:ops[i]?=some o)(hr:∀e∈o.after.toList,Region.binds .any e=true->X e.on=true)(hx:X i=false):
  Region.wanted o (yielded ops a.tmps)=Ff rs i:=by
 obtain⟨r,h1,h2,h3,h4,h5,_⟩:=R.run.step (i:=i) (o:=o) (by simpa using ho)
 rw[←On hI.tr]
 simp only[Ff,h1,h5,h2]
 unfold Region.wanted
 cases hg:o.guard with
 |none=>rfl
 |some gw=>
  obtain⟨g,wv⟩:=gw
  have:EY ops.toList (DQ ops.toList rs t X ops.size) g=EY ops.toList (DQ ops.toList rs t (λ_=>true) i) g:=by
   unfold EY;cases hgo:ops.toList[g]? with
   |none=>rfl
   |some og=>
    cases hgd:og.dst with
    |none=>simp only[hgd]
    |some d=>
     simp only[hgd]
     rw[Inv.looks R hC ho hr hx (d:=d) (by
      refine List.mem_append_right _ ?_;simp[hg,hgo,hgd])]
  simp only[this]
theorem Inv.slots(R:Lx P K G B0 n cf ops t m rs t' m')(hC:VQ ops X)(hI:Inv P B0 G n ops t m rs m' ι0 w0 a0 X ι M s a w)(ho:ops[i]?=some o)(hx:X i=false){ι':Ren}(hle:ι.le ι'){v':Value}(hv:AZ ι' (Fj rs i) v'):
  Be ι' n (DQ ops.toList rs t (Fq X i) ops.size) (a.put o.dst v'):=by
 have hi:i<ops.size:=(Array.getElem?_eq_some_iff.1 ho).1
 obtain⟨r,h1,h2,h3,h4,_⟩:=R.run.step (i:=i) (o:=o) (by simpa using ho)
 have hd:FB ops.toList i=o.dst:=by simp[FB,ho]
 refine Be.congr (λd=>(Zz hi hx (by simp[Fq]) (λk hk=>by simp[Fq,hk]) (λk d hk hkN hdk hdi=>?_) d).symm) (Be.putD (hI.tr.mono hle) (dst:=FB ops.toList i) (by rw[hd];exact h4) hv|> λh=>by rw[hd]at h ⊢;exact h)
 have hko:ops[k]?=some ops[k]:=Array.getElem?_eq_getElem hkN
 rw[hd]at hdi
 have hdk':ops[k].dst=some d:=by simpa[FB,hko]using hdk
 have hb:=(R.sep hko ho (by omega) hdk' (.inr hdi)).2 hk
 cases hxk:X k with
 |false=>rfl
 |true=>have:=R.closed hC hkN hxk i hb;rw[hx]at this;cases this
theorem Inv.here(R:Lx P K G B0 n cf ops t m rs t' m')(hI:Inv P B0 G n ops t m rs m' ι0 w0 a0 X ι M s a w):Rel B0 G ι (C8 rs m' s) w:=by
 have hs:=(R.run.mono hI.sN (by simp)).size
 exact hI.rel.restrict (R.run.topAt (by simp;exact hI.sN)) (by rw[hI.msz];simpa using hs) hI.g1
theorem Inv.quiet(R:Lx P K G B0 n cf ops t m rs t' m')(hC:VQ ops X)(hI:Inv P B0 G n ops t m rs m' ι0 w0 a0 X ι M s a w)(ho:ops[i]?=some o)(hx:X i=false)(hk:BQ ops.toList i≠2)(hnot:BQ ops.toList i=1->Ff rs i=false){v':Value}(hv:AZ ι (Fj rs i) v'):
  Inv P B0 G n ops t m rs m' ι0 w0 a0 (Fq X i) ι M s (a.put o.dst v') w:=by
 have hne:s<ops.size->s≠i:=λh e=>hk (by rw[←e];exact(hI.sh h).1)
 refine⟨Inv.slots R hC hI ho hx (λ_ _ h=>h) hv,hI.sN,λh=>⟨(hI.sh h).1,?_⟩,λh h1 h2=>?_,hI.msz,hI.g1,λj h1 h2 h3 h4 h5=>?_,λj hj hxj=>hI.jn j hj ?_,hI.rel,hI.stp,(put_defers _ _ _).trans hI.dfr⟩
 ·simp[Fq,hne h,(hI.sh h).2]
 ·unfold Fq;split
  ·rfl
  ·exact hI.sb h h1 h2
 ·by_cases e:j=i
  ·rw[e]at h3 h4;rw[hnot h3]at h4;cases h4
  ·exact hI.g2 j h1 h2 h3 h4 (by simpa[Fq,e]using h5)
 ·by_cases e:j=i
  ·rw[e]at hxj;simp[Fq]at hxj
  ·simpa[Fq,e]using hxj
theorem Inv.alloc(R:Lx P K G B0 n cf ops t m rs t' m')(hC:VQ ops X)(hI:Inv P B0 G n ops t m rs m' ι0 w0 a0 X ι M s a w)(ho:ops[i]?=some o)(hx:X i=false)(hk:BQ ops.toList i=1){x:BI}{q:Made}
  (hval:Fj rs i=q.val (C8 rs m' i).size) (hpush:C8 rs m' (i+1)=(C8 rs m' i).push x) (hw:Ff rs i=true) {ob:Obj} {k:Nat}
  (hnew:∀ι':Ren,ι.le ι'->Bg B0 ι' x ⟨w.heap.size,0,k⟩ (w.alloc ob)):
  ∃ι' M',Inv P B0 G n ops t m rs m' ι0 w0 a0 (Fq X i) ι' M' s (a.put o.dst (q.val w.heap.size)) (w.alloc ob):=by
 have hi:i<ops.size:=(Array.getElem?_eq_some_iff.1 ho).1
 have hL:ops.toList.length=ops.size:=by simp
 have hne:s<ops.size->s≠i:=λh e=>by have:=(hI.sh h).1;rw[e,hk]at this;cases this
 have hsi:s≠i:=by
  rcases Nat.lt_or_ge s ops.size with h|h
  ·exact hne h
  ·omega
 obtain⟨b0,hb0⟩:∃b0,b0=(C8 rs m' i).size:=⟨_,rfl⟩
 have hsz1:(C8 rs m' (i+1)).size=b0+1:=by rw[hpush,hb0];rfl
 have hU:b0<M.size:=by
  have:=(R.run.mono (i:=i+1) (j:=ops.size) (by omega) (by omega)).size;rw[hI.msz];omega
 have hnone:ι b0=none:=hI.jn i hi hx b0 (by omega) (by omega)
 have hgx:(C8 rs m' (i+1)).get b0=x:=by rw[hpush,hb0,Mem.get_push_same]
 have hle:ι.le (λb=>if b=b0 then some ⟨w.heap.size,0,k⟩else ι b):=by
  intro b L hb;have:b≠b0:=by intro e;rw[e,hnone]at hb;cases hb
  simp[this,hb]
 have hkept:i<s->(C8 rs m' s).get b0=x:=by
  intro his
  have main:∀c,i+1+c<=s->(C8 rs m' (i+1+c)).get b0=x:=by
   intro c;induction c with
   |zero=>intro _;exact hgx
   |succ c ih=>
    intro hc;have ih:=ih (by omega);have hlt:i+1+c<ops.size:=by have:=hI.sN;omega
    by_cases hh:BQ ops.toList (i+1+c)=2
    ·have hX:=hI.sb (i+1+c) (by omega) hh
     have hnb:Fe (Cz ops.toList []) i (i+1+c)=false:=by
      cases hb:Fe (Cz ops.toList []) i (i+1+c)with
      |false=>rfl
      |true=>have:=R.closed hC hlt hX i hb;rw[hx]at this;cases this
     have hmem:(i,i+1+c)∈NH ops.toList (Cz ops.toList []):=by
      unfold NH;refine List.mem_flatMap.2 ⟨i,List.mem_range.2 (by omega),?_⟩;rw[show Nat.beq (BQ ops.toList i) 1=true by rw[hk];rfl,cond_true];refine List.mem_filterMap.2 ⟨i+1+c,List.mem_range.2 (by omega),?_⟩;have hbl:Nat.blt i (i+1+c)=true:=KM.2 (by omega);simp only[hbl,hh,hnb,Bool.true_and,Bool.not_false,Bool.and_true];rfl
     have:=List.all_eq_true.1 R.c2 _ hmem;unfold R9 at this;obtain⟨r,h1,h2,h3,_⟩:=R.run.step (i:=i) (o:=o) (by simpa using ho);have hwr:r.want=true:=by simpa[Ff,h1]using hw
     simp only[h1,hwr,Bool.not_true,Bool.false_or,h3]at this;have:=Zy this;rw[←hb0,hgx]at this;exact this
    ·have:=R.run.kept (i:=i+1+c) (j:=i+1+c+1) (by omega) (by omega) (λh g1 g2=>by rw[show h=i+1+c by omega];exact hh) b0 (by
      have:=(R.run.mono (i:=i+1) (j:=i+1+c) (by omega) (by omega)).size;omega)
     show(C8 rs m' (i+1+c+1)).get b0=x;rw[this];exact ih
  have:=main (s - (i+1)) (by omega);rw[show i+1+(s - (i+1))=s by omega]at this;exact this
 let M':Mem:=⟨λb=>if b=b0 then x else M.get b, .nil,M.size⟩
 have hg':∀b,M'.get b=if b=b0 then x else M.get b:=λb=>by simp[M',Mem.get,Tr.get_nil]
 have hrel:=Rel.lay (M':=M') hI.rel hU hnone rfl (by rw[hg'];simp) (λb hb=>by rw[hg'];simp[hb]) (hnew _ hle)
 have hdist:∀j,j<ops.size->j≠i->∀b,(C8 rs m' j).size<=b->b< (C8 rs m' (j+1)).size->b≠b0:=by
  intro j hj hji b h1 h2 e;rcases Nat.lt_or_ge j i with hlt|hge
  ·have:=(R.run.mono (i:=j+1) (j:=i) (by omega) (by omega)).size;omega
  ·have:=(R.run.mono (i:=i+1) (j:=j) (by omega) (by omega)).size;omega
 refine⟨_,M',Inv.slots R hC hI ho hx hle ?_,hI.sN,λh=>⟨(hI.sh h).1,?_⟩,λh h1 h2=>?_,hI.msz,λb hb=>?_,λj h1 h2 h3 h4 h5=>?_,λj hj hxj b h1 h2=>?_,hrel,?_,(put_defers _ _ _).trans hI.dfr⟩
 ·rw[hval,←hb0];exact Made.rel (k:=k) (by simp) q
 ·simp[Fq,hsi,(hI.sh h).2]
 ·unfold Fq;split
  ·rfl
  ·exact hI.sb h h1 h2
 ·rw[hg'];by_cases e:b=b0
  ·subst e
   have his:i<s:=by
    rcases Nat.lt_or_ge i s with h|h
    ·exact h
    ·have:=(R.run.mono (i:=s) (j:=i) h (by omega)).size;omega
   rw[if_pos rfl,hkept his]
  ·rw[if_neg e];exact hI.g1 b hb
 ·by_cases e:j=i
  ·subst e;rw[hg',if_pos hb0.symm,←hb0,hgx]
  ·rcases R.run.light (i:=j) (by omega) (by rw[h3];decide)with⟨_,g⟩|⟨_,_,x',q',_,_,g⟩
   ·rw[g h3]at h4;cases h4
   ·have hb1:(C8 rs m' j).size< (C8 rs m' (j+1)).size:=by rw[g];simp
    rw[hg',if_neg (hdist j h2 e _ (Nat.le_refl _) hb1)];exact hI.g2 j h1 h2 h3 h4 (by simpa[Fq,e]using h5)
 ·have e:j≠i:=by intro e;rw[e]at hxj;simp[Fq]at hxj
  simp only[hdist j hj e b h1 h2,if_false];exact hI.jn j hj (by simpa[Fq,e]using hxj) b h1 h2
 ·have hms:m.size<=b0:=by
   have:=(R.run.mono (i:=0) (j:=i) (Nat.zero_le _) (by omega)).size;rw[R.run.zero]at this;omega
  refine⟨λb L hb=>hle _ _ (hI.stp.ext _ _ hb),λb hb=>?_,hI.stp.os,hI.stp.output,hI.stp.tape,by have:=hI.stp.hsize;simp;omega,λB hB hn=>?_,λb L h1 h2 hb=>?_,hI.stp.msize,λb hb hown=>?_⟩
  ·have:b≠b0:=by
    rcases hb with hb|hb
    ·omega
    ·have:M'.size=M.size:=rfl;omega
   simp only[this,if_false];exact hI.stp.out b hb
  ·have:=hI.stp.hsize;rw[show(w.alloc ob).heap[B]?=w.heap[B]? by show(w.heap.push ob)[B]?=_;rw[Array.getElem?_push,if_neg (by omega)]];exact hI.stp.frame B hB hn
  ·by_cases e:b=b0
   ·simp only[e,if_true]at hb;cases hb;exact .inl hI.stp.hsize
   ·simp only[e,if_false]at hb;exact hI.stp.new b L h1 h2 hb
  ·rw[hg',if_neg (by omega)]at hown;exact hI.stp.ownk b hb hown
theorem Inv.advance(R:Lx P K G B0 n cf ops t m rs t' m')(hC:VQ ops X)(hI:Inv P B0 G n ops t m rs m' ι0 w0 a0 X ι M s a w)(ho:ops[s]?=some o)(hx:X s=false){ι':Ren}{w':World}{v':Value}
  (hrel:Rel B0 G ι' (C8 rs m' (s+1)) w') (hstp:EP ι ι' (C8 rs m' s) (C8 rs m' (s+1)) w w') (hv:AZ ι' (Fj rs s) v'):
  ∃M' s',Inv P B0 G n ops t m rs m' ι0 w0 a0 (Fq X s) ι' M' s' (a.put o.dst v') w':=by
 have hi:s<ops.size:=(Array.getElem?_eq_some_iff.1 ho).1
 have hL:ops.toList.length=ops.size:=by simp
 have hks:=(hI.sh hi).1
 obtain⟨s',hs1,hs2,hs3,hs4⟩:=J9 ops.toList (ops.size - (s+1)) (s+1) (by omega)
 have hkept:=R.run.kept (i:=s+1) (j:=s') hs1 hs2 (λh g1 g2=>hs4 h g1 g2)
 have z1:=(R.run.mono (i:=s) (j:=s+1) (by omega) (by omega)).size
 have z2:=(R.run.mono (i:=s+1) (j:=s') hs1 hs2).size
 have z3:=(R.run.mono (i:=s') (j:=ops.size) (by omega) (by omega)).size
 have z0:=(R.run.mono (i:=0) (j:=s) (Nat.zero_le _) (by omega)).size
 rw[R.run.zero]at z0
 have hms:=hI.msz
 let M':Mem:=⟨λb=>if b< (C8 rs m' s').size then(C8 rs m' s').get b else M.get b, .nil,M.size⟩
 have hg':∀b,M'.get b=if b< (C8 rs m' s').size then(C8 rs m' s').get b else M.get b:=λb=>by simp[M',Mem.get,Tr.get_nil]
 have hgl:∀b,b< (C8 rs m' (s+1)).size->M'.get b=(C8 rs m' (s+1)).get b:=λb hb=>by
  rw[hg',if_pos (by omega)];exact hkept b hb
 have hgh:∀b L,(C8 rs m' (s+1)).size<=b->b<M.size->ι b=some L->M'.get b=M.get b:=by
  intro b L h1 h2 hb;rw[hg'];split
  ·rename_i hlt;obtain⟨j,g1,g2,g3,g4⟩:=R.run.owner (i:=s+1) (s' - (s+1)) (by omega) b h1 (by rw[show s+1+(s' - (s+1))=s' by omega];exact hlt);have hjN:j<ops.size:=by omega
   have hXj:X j=true:=by
    cases hxj:X j with
    |true=>rfl
    |false=>have:=hI.jn j hjN hxj b g3 g4;rw[this]at hb;cases hb
   rcases R.run.light (i:=j) (by omega) (hs4 j g1 (by omega))with⟨e,_⟩|⟨k1,k2,x,q,_,_,e⟩
   ·rw[e]at g4;omega
   ·have hbj:b=(C8 rs m' j).size:=by rw[e]at g4;simp at g4;omega
    have hb2:=hI.g2 j (by omega) hjN k1 k2 hXj;rw[hbj,hb2];exact R.run.kept (i:=j+1) (j:=s') (by omega) hs2 (λh q1 q2=>hs4 h (by omega) q2) _ (by rw[e];simp)
  ·rfl
 have hout:∀b,(C8 rs m' (s+1)).size<=b->ι' b=ι b:=λb hb=>hstp.out b (.inr hb)
 have hfr:∀b L,(C8 rs m' (s+1)).size<=b->b<M.size->ι b=some L->(M.get b).live->w'.heap[L.block]?=w.heap[L.block]?:=by
  intro b L h1 h2 hb hlv;refine hstp.frame _ (hI.rel.old b L hb hlv) λb1 L1 k1 k2 k3 e=>?_;rw[←hI.g1 b1 k1]at k3;have l1:(M.get b1).live:=by cases hg:M.get b1<;>simp_all [BI.own,BI.live]
  have:=hI.rel.inj b1 b L1 L (by omega) h2 k2 hb l1 hlv ((hI.rel.blk b1 L1 (by omega) k2).own_floor k3) e;omega
 have hrel':Rel B0 G ι' M' w':=by
  refine⟨λb L hb hL=>?_,λb₁ b₂ L₁ L₂ h1 h2 h3 h4 l1 l2 g0 e=>?_,hrel.floor,hrel.glob,λb hb=>?_⟩
  ·rcases Nat.lt_or_ge b (C8 rs m' (s+1)).size with hlt|hge
   ·rw[hgl b hlt];exact hrel.blk b L hlt hL
   ·rw[hout b hge]at hL;rw[hgh b L hge hb hL];have hbr:=hI.rel.blk b L hb hL;by_cases hlv:(M.get b).live
    ·exact hbr.mono hstp.ext (hfr b L hge hb hL hlv)
    ·cases hg:M.get b<;>simp_all [BI.live,Bg]
  ·have mixed:∀b₁ b₂ L₁ L₂,b₁< (C8 rs m' (s+1)).size->(C8 rs m' (s+1)).size<=b₂->b₂<M.size->ι' b₁=some L₁->ι' b₂=some L₂->(M'.get b₁).live->(M'.get b₂).live->B0<=L₁.block->L₁.block=L₂.block->False:=by
    intro b₁ b₂ L₁ L₂ h1 h2 h2' h3 h4 l1 l2 g0 e;rw[hout b₂ h2]at h4;rw[hgl b₁ h1]at l1;rw[hgh b₂ L₂ h2 h2' h4]at l2;rcases Nat.lt_or_ge b₁ (C8 rs m' s).size with hlt|hge
    ·rw[hstp.out b₁ (.inl hlt)]at h3;have l1':=(R.run.grow1 (i:=s) (by omega)).live b₁ hlt l1;rw[←hI.g1 b₁ hlt]at l1';have:=hI.rel.inj b₁ b₂ L₁ L₂ (by omega) h2' h3 h4 l1' l2 g0 e;omega
    ·rcases hstp.new b₁ L₁ hge h1 h3 with g|⟨b0,L0,q1,q2,q3,q4⟩
     ·have:=hI.rel.old b₂ L₂ h4 l2;omega
     ·rw[←hI.g1 b0 q1]at q3;have l0:(M.get b0).live:=by cases hg:M.get b0<;>simp_all [BI.own,BI.live]
      have:=hI.rel.inj b0 b₂ L0 L₂ (by omega) h2' q2 h4 l0 l2 (Nat.le_trans g0 (Nat.le_of_eq q4.symm)) (q4.trans e);omega
   rcases Nat.lt_or_ge b₁ (C8 rs m' (s+1)).size with hlt1|hge1
   ·rcases Nat.lt_or_ge b₂ (C8 rs m' (s+1)).size with hlt2|hge2
    ·rw[hgl b₁ hlt1]at l1;rw[hgl b₂ hlt2]at l2;exact hrel.inj b₁ b₂ L₁ L₂ hlt1 hlt2 h3 h4 l1 l2 g0 e
    ·exact(mixed b₁ b₂ L₁ L₂ hlt1 hge2 h2 h3 h4 l1 l2 g0 e).elim
   ·rcases Nat.lt_or_ge b₂ (C8 rs m' (s+1)).size with hlt2|hge2
    ·exact(mixed b₂ b₁ L₂ L₁ hlt2 hge1 h1 h4 h3 l2 l1 (Nat.le_trans g0 (Nat.le_of_eq e)) e.symm).elim
    ·rw[hout b₁ hge1]at h3;rw[hout b₂ hge2]at h4;rw[hgh b₁ L₁ hge1 h1 h3]at l1;rw[hgh b₂ L₂ hge2 h2 h4]at l2;exact hI.rel.inj b₁ b₂ L₁ L₂ h1 h2 h3 h4 l1 l2 g0 e
  ·have hb':M.size<=b:=hb;rw[hg',if_neg (by omega)];exact hI.rel.top b hb'
 refine⟨M',s',Inv.slots R hC hI ho hx hstp.ext hv,by omega,λh=>⟨hs3 (by omega),?_⟩,λh h1 h2=>?_,hI.msz,λb hb=>by rw[hg',if_pos hb],λj h1 h2 h3 h4 h5=>?_,λj hj hxj b h1 h2=>?_,hrel',?_,(put_defers _ _ _).trans hI.dfr⟩
 ·have hne:s'≠s:=by omega
  simp only[Fq,hne,if_false];cases hxs:X s' with
  |false=>rfl
  |true=>
   have:=R.closed hC h hxs s (R.heavy hi h hks (hs3 (by omega)) (by omega));rw[hx]at this;cases this
 ·unfold Fq;split
  ·rfl
  ·rename_i hne;rcases Nat.lt_or_ge h s with hlt|hge
   ·exact hI.sb h hlt h2
   ·exact absurd h2 (hs4 h (by omega) h1)
 ·have hne:j≠s:=by omega
  have hz:=(R.run.mono (i:=s') (j:=j) (by omega) (by omega)).size;rw[hg',if_neg (by omega)];exact hI.g2 j (by omega) h2 h3 h4 (by simpa[Fq,hne]using h5)
 ·have hne:j≠s:=by intro e;rw[e]at hxj;simp[Fq]at hxj
  have hxj':X j=false:=by simpa[Fq,hne]using hxj
  rw[hstp.out b ?_]
  ·exact hI.jn j hj hxj' b h1 h2
  ·rcases Nat.lt_or_ge j s with hlt|hge
   ·have:=(R.run.mono (i:=j+1) (j:=s) (by omega) (by omega)).size;exact .inl (by omega)
   ·have:=(R.run.mono (i:=s+1) (j:=j) (by omega) (by omega)).size;exact .inr (by omega)
 ·exact EP.inner hI.stp hstp z0 (by omega) hI.g1 rfl (λb hb=>hgl b (by omega))
end
end Go.DI
namespace Go.DI
section
variable{P:Program}{K:TypeId->Bool}{G B0 n:Nat}{cf:C7}{ops:Array Oper}{t t':AF}{m m':Mem}{rs:List Rec}
variable{ι0 ι:Ren}{M:Mem}{w0 w:World}{a0 a:Act}{X:Nat->Bool}{s i:Nat}{o:Oper}
theorem Inv.quietVal(R:Lx P K G B0 n cf ops t m rs t' m')(hC:VQ ops X)(hI:Inv P B0 G n ops t m rs m' ι0 w0 a0 X ι M s a w)(ho:ops[i]?=some o)(hr:∀e∈o.after.toList,Region.binds .any e=true->X e.on=true)(hx:X i=false)
  (hk:Bd o.op=0) {r:Rec} (h1:rs[i]?=some r) (hq:BV P K G r.t r.m o.op=some r.v) (hw:r.want=true) (hrm:r.m=C8 rs m' i):
  BV P K G r.t (C8 rs m' s) o.op=some r.v:=by
 have hi:i<ops.size:=(Array.getElem?_eq_some_iff.1 ho).1
 have hL:ops.toList.length=ops.size:=by simp
 cases hrd:E1 o.op with
 |false=>rw[Lh hrd (C8 rs m' s)]at hq;exact hq
 |true=>
  cases hnx:Ou ops.toList i s with
  |true=>
   simp only[Ou,Bool.and_eq_true,List.all_eq_true,List.mem_range,Bool.or_eq_true,Bool.not_eq_true']at hnx;obtain⟨g1,g2⟩:=hnx;have his:i<=s:=Nat.le_of_ble_eq_true g1;rw[hrm]at hq;refine T9 (R.run.topAt (by omega)) (R.run.kept his (by have:=hI.sN;omega) λh k1 k2 e=>?_) hq;rcases g2 h k2 with g|g
   ·rw[e]at g;cases g
   ·have:=KM.1 g;omega
  |false=>
   have hfe:Ot ops.toList (Cz ops.toList []) i s=true:=by
    simp only[Ot,Bool.and_eq_true,Bool.or_eq_true,List.all_eq_true,List.mem_range,Bool.not_eq_true'];refine⟨?_,λh hh=>?_⟩
    ·rcases Nat.lt_or_ge s ops.size with hlt|hge
     ·right;refine⟨by rw[(hI.sh hlt).1];rfl,?_⟩;cases hb:Fe (Cz ops.toList []) s i with
      |false=>rfl
      |true=>have:=R.ready hC ho hr s hb;rw[(hI.sh hlt).2]at this;cases this
     ·left;have:s=ops.size:=by have:=hI.sN;omega
      rw[this,hL];exact Nat.beq_refl _
    ·cases hkh:Nat.beq (BQ ops.toList h) 2 with
     |false=>exact .inl rfl
     |true=>
      right;have hX:=hI.sb h hh (Nat.eq_of_beq_eq_true hkh);cases hb:Fe (Cz ops.toList []) i h with
      |false=>rfl
      |true=>have:=R.closed hC (by have:=hI.sN;omega) hX i hb;rw[hx]at this;cases this
   have hmem:(i,s)∈NG ops.toList (Cz ops.toList []):=by
    unfold NG;refine List.mem_flatMap.2 ⟨i,List.mem_range.2 (by omega),?_⟩;simp only[Array.getElem?_toList,ho,hk,hrd];rw[show(Nat.beq 0 0 && true)=true from rfl,cond_true];refine List.mem_filterMap.2 ⟨s,List.mem_range.2 (by have:=hI.sN;omega),?_⟩;rw[hfe,hnx];rfl
   have:=List.all_eq_true.1 R.c1 _ hmem;unfold Hm at this;simp only[h1,Array.getElem?_toList,ho,hw,Bool.not_true,Bool.false_or]at this;split at this
   ·rename_i v hv;rw[hv,Ta 8 _ _ this]
   ·cases this
theorem Inv.listed(R:Lx P K G B0 n cf ops t m rs t' m')(hI:Inv P B0 G n ops t m rs m' ι0 w0 a0 X ι M s a w)(hall:∀i,i<ops.size->X i=true)(ht':Zv rs t' ops.size=t'):
  Em B0 G n ι0 m w0 a0 t' m' a w:=by
 have hL:ops.toList.length=ops.size:=by simp
 have hs:s=ops.size:=by
  rcases Nat.lt_or_ge s ops.size with h|h
  ·have:=(hI.sh h).2;rw[hall s h]at this;cases this
  ·have:=hI.sN;omega
 have hlast:C8 rs m' ops.size=m':=by rw[←hL];exact R.run.last
 have hg:∀b,b<m'.size->M.get b=m'.get b:=λb hb=>by have:=hI.g1 b;rw[hs,hlast]at this;exact this hb
 have htop:m'.top:=by rw[←hlast];exact R.run.topAt (by omega)
 have hms:M.size=m'.size:=by rw[hI.msz,hlast]
 have hrel:=hI.rel.restrict htop (by omega) hg
 have happ:∀k,k<=ops.size->DQ ops.toList rs t X k=DQ ops.toList rs t (λ_=>true) k:=by
  intro k;induction k with
  |zero=>intro _;rfl
  |succ k ih=>intro hk;simp only[DQ];rw[ih (by omega)];simp[hall k (by omega)]
 refine⟨ι,?_,hrel,⟨hI.stp.ext,λb hb=>hI.stp.out b (by omega),hI.stp.os,hI.stp.output,hI.stp.tape,hI.stp.hsize,hI.stp.frame,λb L h1 h2 hb=>hI.stp.new b L h1 (by omega) hb,by have:=hI.stp.msize;omega,λb hb ho=>hI.stp.ownk b hb ?_⟩,hI.dfr⟩
 ·have htr:=hI.tr;rw[happ _ (Nat.le_refl _)]at htr
  have:DQ ops.toList rs t (λ_=>true) ops.size=t':=by
   obtain⟨g1,g2,g3,g4⟩:=HN _ _ _ _ _ _ R.run.eq
   have ht:∀k,k<=ops.size->Zv rs t' k=DQ ops.toList rs t (λ_=>true) k:=by
    intro k;induction k with
    |zero=>intro _;exact g2
    |succ k ih=>
     intro hk;have ih:=ih (by omega);have ho':ops.toList[k]?=some ops[k]:=by rw[Array.getElem?_toList];exact Array.getElem?_eq_getElem (by omega)
     obtain⟨r,h1,h2,h3,h4,_⟩:=g4 k _ ho';rw[h4];simp only[DQ,if_true,FB,ho',Fj,h1];rw[←ih];simp only[Zv,h1]
   rw[←ht _ (Nat.le_refl _),ht']
  rw[this]at htr;exact htr
 ·have hsz:=hI.stp.msize;rw[hg b (by omega)];exact ho
theorem Inv.step(R:Lx P K G B0 n cf ops t m rs t' m')(hC:VQ ops X)(hI:Inv P B0 G n ops t m rs m' ι0 w0 a0 X ι M s a w)(ho:ops[i]?=some o)(hr:∀e∈o.after.toList,Region.binds .any e=true->X e.on=true)(hx:X i=false)
  {Q:Exit->Act->World->Prop} {k:Act->World->Prop} (hk:∀ι' M' s' a' w',Inv P B0 G n ops t m rs m' ι0 w0 a0 (Fq X i) ι' M' s' a' w'->k a' w'):wpOp P ops Q i k a w:=by
 have hi:i<ops.size:=(Array.getElem?_eq_some_iff.1 ho).1
 have hL:ops.toList.length=ops.size:=by simp
 obtain⟨r,h1,h2,h3,h4,h5,h6,h7⟩:=R.run.step (i:=i) (o:=o) (by simpa using ho)
 have hka:BQ ops.toList i=Bd o.op:=by simp[BQ,ho]
 have hwa:Ff rs i=r.want:=by simp[Ff,h1]
 have hva:Fj rs i=r.v:=by simp[Fj,h1]
 have hwant:=Inv.want R hC hI ho hr hx
 have hev:=Inv.evs R hC ho hr hx
 rw[←h2]at hev
 have hhere:=Inv.here R hI
 have hheavy:Bd o.op=2->i=s:=by
  intro hk2;rcases Nat.lt_trichotomy i s with hlt|heq|hgt
  ·have:=hI.sb i hlt (by rw[hka];exact hk2);rw[hx]at this;cases this
  ·exact heq
  ·have hsN:s<ops.size:=by omega
   have:=R.ready hC ho hr s (R.heavy hsN hi (hI.sh hsN).1 (by rw[hka];exact hk2) hgt);rw[(hI.sh hsN).2]at this;cases this
 unfold wpOp
 simp only[ho]
 cases hw:r.want with
 |false=>
  rw[if_neg (by rw[hwant,hwa,hw];simp)];have hvu:Fj rs i=undef:=by rw[hva];exact(h7 hw).1
  by_cases hk2:Bd o.op=2
  ·obtain rfl:=hheavy hk2;have hmm:C8 rs m' (i+1)=C8 rs m' i:=by rw[(h7 hw).2,h3]
   obtain⟨M',s',hI'⟩:=Inv.advance R hC hI ho hx (ι':=ι) (w':=w) (v':=undef) (by rw[hmm];exact hhere) (by rw[hmm];exact EP.refl _ _ _) (by rw[hvu];exact AZ.undef _);exact hk _ _ _ _ _ hI'
  ·exact hk _ _ _ _ _ (Inv.quiet R hC hI ho hx (by rw[hka];exact hk2) (λ_=>by rw[hwa,hw]) (by rw[hvu];exact AZ.undef _))
 |true=>
  rw[if_pos (by rw[hwant,hwa,hw])];refine .inl ?_;have h8:=h6 hw;unfold Dr at h8;rcases Li o.op with hc|hc|hc
  ·rw[hc]at h8;simp only at h8;split at h8<;>simp at h8;rename_i v hv;have hv':BV P K G r.t r.m o.op=some r.v:=by rw[hv,h8.1]
   have hq:=Inv.quietVal R hC hI ho hr hx hc h1 hv' hw h3;rw[←QB (m:=C8 rs m' s) hev]at hq;obtain⟨v',g1,g2⟩:=R3 R.hK hhere hI.tr hq;unfold Oper.wp;rw[g1];exact hk _ _ _ _ _ (Inv.quiet R hC hI ho hx (by rw[hka,hc];decide) (λe=>by rw[hka,hc]at e;cases e) (by rw[hva];exact g2))
  ·rw[hc]at h8;simp only at h8;split at h8<;>simp at h8;rename_i x q hxq;rw[←QC hev]at hxq;obtain⟨ob,kk,g1,g2⟩:=NJ (P:=P) hI.rel hI.tr hxq;obtain⟨ι',M',hI'⟩:=Inv.alloc R hC hI ho hx (by rw[hka];exact hc) (x:=x) (q:=q) (by rw[hva,←h8.1,h3]) (by rw[←h8.2,h3]) (by rw[hwa,hw]) g2;unfold Oper.wp;rw[g1];exact hk _ _ _ _ _ hI'
  ·obtain rfl:=hheavy hc;rw[hc]at h8;simp only at h8;rw[←QD (cf:=cf) (m:=r.m) hev,h3]at h8;refine R2 R.hK R.hcf hhere hI.tr h8 (λb q1 q2=>hI.jn i hi hx b q1 q2) λι' v' w' g1 g2 g3=>?_;obtain⟨M',s',hI'⟩:=Inv.advance R hC hI ho hx g2 g3 (by rw[hva];exact g1);exact hk _ _ _ _ _ hI'
theorem count_set{l:List Bool}{i:Nat}(h:l[i]?=some false):(l.set i true).count false+1=l.count false:=by
 induction l generalizing i with
 |nil=>simp at h
 |cons b l ih=>
  cases i with
  |zero=>simp at h;subst h;simp
  |succ i=>
   simp at h;have:=ih h;simp only[List.set_cons_succ,List.count_cons];omega
theorem Tc(R:Lx P K G B0 n cf ops t m rs t' m')(ht':Zv rs t' ops.size=t'){Q:Exit->Act->World->Prop}(hQ:∀a' w',Em B0 G n ι0 m w0 a0 t' m' a' w'->Q .normal a' w'):
  ∀(fuel:Nat) (listed:Array Bool) (ι:Ren) (M:Mem) (s:Nat) (a:Act) (w:World),listed.size=ops.size->listed.toList.count false=fuel->VQ ops (λk=>listed.getD k false)->
   Inv P B0 G n ops t m rs m' ι0 w0 a0 (λk=>listed.getD k false) ι M s a w->wpAny P .any ops Q fuel listed a w:=by
 intro fuel
 have hL:ops.toList.length=ops.size:=by simp
 have hdone:∀(listed:Array Bool),listed.size=ops.size->Region.ready .any ops listed= []->∀i,i<ops.size->listed.getD i false=true:=by
  intro listed hsz hrd i;induction i using Nat.strongRecOn with
  |_ i ih=>
   intro hi;cases hl:listed.getD i false with
   |true=>rfl
   |false=>
    exfalso
    have:i∈Region.ready .any ops listed:=by
     rw[mem_ready];refine⟨?_,ops[i],Array.getElem?_eq_getElem hi,λe he hb=>?_⟩
     ·have hi':i<listed.size:=by omega
      simp[hi']at hl ⊢;exact hl
     ·have hlt:=IH ops.toList 0 R.edges i ops[i] (by rw[Array.getElem?_toList];exact Array.getElem?_eq_getElem hi) e (by simpa using he) hb;exact ih e.on (by omega) (by omega)
    rw[hrd]at this;cases this
 have hstep:∀(fuel:Nat) (listed:Array Bool) (ι:Ren) (M:Mem) (s:Nat) (a:Act) (w:World),listed.size=ops.size->listed.toList.count false=fuel+1->VQ ops (λk=>listed.getD k false)->
   Inv P B0 G n ops t m rs m' ι0 w0 a0 (λk=>listed.getD k false) ι M s a w->
   (∀(listed:Array Bool) (ι:Ren) (M:Mem) (s:Nat) (a:Act) (w:World),listed.size=ops.size->listed.toList.count false=fuel->VQ ops (λk=>listed.getD k false)->
    Inv P B0 G n ops t m rs m' ι0 w0 a0 (λk=>listed.getD k false) ι M s a w->wpAny P .any ops Q fuel listed a w)->
   ∀i∈Region.ready .any ops listed,wpOp P ops Q i (wpAny P .any ops Q fuel (listed.setIfInBounds i true)) a w:=by
  intro fuel listed ι M s a w hsz hcnt hC hI ih i hi;rw[mem_ready]at hi;obtain⟨h0,o,ho,hall⟩:=hi;have hiN:i<ops.size:=(Array.getElem?_eq_some_iff.1 ho).1;have hil:i<listed.size:=by omega
  have hxf:listed.getD i false=false:=by simp[hil]at h0 ⊢;exact h0
  refine Inv.step R hC hI ho (λe he hb=>hall e (by simpa using he) hb) hxf λι' M' s' a' w' hI'=>?_
  have hXe:(λk=>(listed.setIfInBounds i true).getD k false)=Fq (λk=>listed.getD k false) i:=by
   funext k;unfold Fq;by_cases e:k=i
   ·subst e;simp[hil]
   ·simp only[e,if_false];rw[getD_set_ne false (Ne.symm e)]
  refine ih _ ι' M' s' a' w' (by simp[hsz]) ?_ ?_ (by rw[hXe];exact hI')
  ·have hlf:listed.toList[i]?=some false:=by
    rw[Array.getElem?_toList,Array.getElem?_eq_getElem hil];simp[hil]at hxf;rw[hxf]
   have:=count_set hlf;have e1:(listed.setIfInBounds i true).toList=listed.toList.set i true:=by simp
   rw[e1];omega
  ·intro j oj hj hxj e he hb;by_cases hji:j=i
   ·subst hji
    have:oj=o:=by
     rw[Array.getElem?_toList,ho]at hj;exact(Option.some.inj hj).symm
    subst this;exact getD_set_true (hall e (by simpa using he) hb)
   ·refine getD_set_true (hC j oj hj ?_ e he hb);have hxj2:(listed.setIfInBounds i true).getD j false=true:=hxj;rw[getD_set_ne false (Ne.symm hji)]at hxj2;exact hxj2
 induction fuel with
 |zero=>
  intro listed ι M s a w hsz hcnt hC hI
  have hall:∀i,i<ops.size->listed.getD i false=true:=by
   intro i hi;cases hl:listed.getD i false with
   |true=>rfl
   |false=>
    exfalso;have hil:i<listed.size:=by omega
    have:false∈listed.toList:=by
     simp[hil]at hl;rw[←hl];exact Array.getElem_mem_toList hil
    have:=List.count_pos_iff.2 this;omega
  refine⟨?_,hQ a w (Inv.listed R hI hall ht')⟩;cases hrd:Region.ready .any ops listed with
  |nil=>rfl
  |cons i l=>
   exfalso;have hi:i∈Region.ready .any ops listed:=by rw[hrd];simp
   rw[mem_ready]at hi;obtain⟨h0,o,ho,_⟩:=hi;have hiN:i<ops.size:=(Array.getElem?_eq_some_iff.1 ho).1;have hil:i<listed.size:=by omega
   have:=hall i hiN;simp[hil]at h0 this;rw[h0]at this;cases this
 |succ fuel ih=>
  intro listed ι M s a w hsz hcnt hC hI;exact⟨λhrd=>hQ a w (Inv.listed R hI (hdone listed hsz hrd) ht'),hstep fuel listed ι M s a w hsz hcnt hC hI ih⟩
theorem Ra(hK:Plain P K)(hcf:CR P B0 G cf)(hg:B5 cf){Q:Exit->Act->World->Prop}(h:AV P K G cf n ops.toList t m=some (t',m'))(hr:Rel B0 G ι m w)(ht:Be ι n t a)(hf:FA ι m.size m'.size)
  (hQ:∀a' w',Em B0 G n ι m w a t' m' a' w'->Q .normal a' w'):wpAny P .any ops Q ops.size (Array.replicate ops.size false) a {w with drawn:=w.drawn+1}:=by
 unfold AV at h
 split at h<;>try (simp at h;done)
 rename_i hstat
 split at h<;>try (simp at h;done)
 rename_i rs t₁ m₁ hrec
 split at h<;>try (simp at h;done)
 rename_i hc1
 split at h<;>simp at h
 rename_i hc2
 obtain⟨rfl,rfl⟩:=h
 have hL:ops.toList.length=ops.size:=by simp
 have R:Lx P K G B0 n cf ops t m rs t₁ m₁:=⟨hK,hcf,⟨hrec,hg,hr.top⟩,hstat,hc1,hc2⟩
 have hlast:C8 rs m₁ ops.size=m₁:=by rw[←hL];exact R.run.last
 have htl:Zv rs t₁ ops.size=t₁:=by unfold Zv;rw[List.getElem?_eq_none (by rw[R.run.len];omega)]
 have hrd:=hr.drew
 obtain⟨s,hs1,hs2,hs3,hs4⟩:=J9 ops.toList ops.size 0 (by omega)
 have hkept:=R.run.kept (i:=0) (j:=s) (by omega) hs2 (λh _ g2=>hs4 h (by omega) g2)
 rw[R.run.zero]at hkept
 have z1:=(R.run.mono (i:=0) (j:=s) (by omega) hs2).size
 have z2:=(R.run.mono (i:=s) (j:=ops.size) (by omega) (by omega)).size
 rw[R.run.zero]at z1
 rw[hlast]at z2
 let M:Mem:=⟨λb=>if b< (C8 rs m₁ s).size then(C8 rs m₁ s).get b else .none, .nil,m₁.size⟩
 have hgM:∀b,M.get b=if b< (C8 rs m₁ s).size then(C8 rs m₁ s).get b else .none:=λb=>by simp[M,Mem.get,Tr.get_nil]
 have hlow:∀b L,b<m₁.size->ι b=some L->b<m.size:=by
  intro b L h1 h2;rcases Nat.lt_or_ge b m.size with h3|h3
  ·exact h3
  ·rw[hf b h3 h1]at h2;cases h2
 have hgl:∀b,b<m.size->M.get b=m.get b:=λb hb=>by rw[hgM,if_pos (by omega)];exact hkept b hb
 have hrelM:Rel B0 G ι M w.drew:=by
  refine⟨λb L hb hL=>?_,λb₁ b₂ L₁ L₂ h1 h2 h3 h4 l1 l2 g0 e=>?_,hrd.1.floor,hrd.1.glob,λb hb=>?_⟩
  ·have:=hlow b L hb hL;rw[hgl b this];exact hrd.1.blk b L this hL
  ·have q1:=hlow b₁ L₁ h1 h3;have q2:=hlow b₂ L₂ h2 h4;rw[hgl b₁ q1]at l1;rw[hgl b₂ q2]at l2;exact hrd.1.inj b₁ b₂ L₁ L₂ q1 q2 h3 h4 l1 l2 g0 e
  ·have hb':m₁.size<=b:=hb;rw[hgM];split
   ·omega
   ·rfl
 have hdr:({w with drawn:=w.drawn+1}:World)=w.drew:=rfl
 rw[hdr]
 have hX0:∀k,(Array.replicate ops.size false).getD k false=false:=λk=>by
  rcases Nat.lt_or_ge k ops.size with h|h
  ·simp[h]
  ·simp[h]
 refine Tc (ι0:=ι) (w0:=w.drew) (a0:=a) R htl (λa' w' ha=>hQ a' w' (Em.trans hrd.2 rfl ha)) ops.size (Array.replicate ops.size false) ι M s a w.drew (by simp) (by simp) ?_ ?_
 ·intro j o _ hx;have hx2:(Array.replicate ops.size false).getD j false=true:=hx;rw[hX0 j]at hx2;cases hx2
 ·have happ:DQ ops.toList rs t (λk=>(Array.replicate ops.size false).getD k false) ops.size=t:=by
   have:∀k,DQ ops.toList rs t (λk=>(Array.replicate ops.size false).getD k false) k=t:=by
    intro k;induction k with
    |zero=>rfl
    |succ k ih=>
     simp only[DQ];have h0:=hX0 k;split
     ·rename_i h1;rw[h0]at h1;cases h1
     ·exact ih
   exact this _
  refine⟨by rw[happ];exact ht,by omega,λh=>⟨hs3 (by omega),hX0 _⟩,λh h1 h2=>absurd h2 (hs4 h (by omega) h1),hlast.symm▸rfl,λb hb=>by rw[hgM,if_pos hb],λi _ _ _ _ h5=>(by have h6:(Array.replicate ops.size false).getD i false=true:=h5;rw[hX0]at h6;cases h6),λi hi _ b h1 h2=>hf b ?_ ?_,hrelM,?_,rfl⟩
  ·have:=(R.run.mono (i:=0) (j:=i) (by omega) (by omega)).size;rw[R.run.zero]at this;omega
  ·have:=(R.run.mono (i:=i+1) (j:=ops.size) (by omega) (by omega)).size;rw[hlast]at this;omega
  ·refine⟨λ_ _ h=>h,λ_ _=>rfl,rfl,rfl,rfl,Nat.le_refl _,λ_ _ _=>rfl,λb L h1 h2 hb=>?_,by show m.size<=m₁.size;omega,λb hb ho=>?_⟩
   ·rw[hf b h1 h2]at hb;cases hb
   ·rw[hgl b hb]at ho;exact ho
theorem g8(Bu:P.follows .mixedOrders=true)(hK:Plain P K)(hcf:CR P B0 G cf)(hg:B5 cf){id:Nat}{Q:Exit->Act->World->Prop}(h:AV P K G cf n ops.toList t m=some (t',m'))(hr:Rel B0 G ι m w)(ht:Be ι n t a)(hf:FA ι m.size m'.size)
  (hQ:∀a' w',Em B0 G n ι m w a t' m' a' w'->Q .normal a' w'):(Code.region id ops true).wp P Q a w:=wp_region_any Bu (Ra hK hcf hg h hr ht hf hQ)
theorem Ik(hg:B5 cf){l:List Oper}(h:AV P K G cf n l t m=some (t',m')):EL m m':=by
 unfold AV at h
 split at h<;>try (simp at h;done)
 split at h<;>try (simp at h;done)
 rename_i rs t₁ m₁ hrec
 split at h<;>try (simp at h;done)
 split at h<;>simp at h
 obtain⟨rfl,rfl⟩:=h
 have key:∀(ops l:List Oper) (t:AF) (m:Mem) (rs:List Rec) (t':AF) (m':Mem),HM P K G cf n ops l t m=some (rs,t',m')->EL m m':=by
  intro ops l;induction l with
  |nil=>intro t m rs t' m' h;simp[HM]at h;rw[h.2.2];exact EL.refl _
  |cons o l ih=>
   intro t m rs t' m' h;simp only[HM]at h;split at h<;>try (simp at h;done)
   split at h
   ·split at h<;>try (simp at h;done)
    rename_i v m₂ hv;split at h<;>simp at h;rename_i h1;rw[←h.2.2];exact(QE hg hv).trans (ih _ _ _ _ _ h1)
   ·split at h<;>simp at h;rename_i h1;rw[←h.2.2];exact ih _ _ _ _ _ h1
 exact key _ _ _ _ _ _ _ hrec
theorem LF(Bu:P.follows .mixedOrders=true)(hK:Plain P K)(hcf:CR P B0 G cf)(hg:B5 cf):Zr P B0 G n (AV P K G cf n):=
 ⟨λops t m t' m' h=>(Ik hg h).size,λops id ι t m w a t' m' Q h hr ht hf hQ=>g8 Bu hK hcf hg h hr ht hf hQ⟩
theorem Fw:∀(k:Nat),B5 (DH P K G k)
 |0,f,args,m,v,m',h=>by simp[DH]at h
 |k+1,f,args,m,v,m',h=>by
  have ih:=Fw k;simp only[DH]at h;split at h<;>try (simp at h;done)
  split at h<;>try (simp at h;done)
  split at h<;>try (simp at h;done)
  all_goals
   rename_i hc;split at h<;>simp at h;rw[←h.2];exact LG ih (λ_ _ _ _ _ h=>Ik ih h) _ _ _ _ _ _ hc
theorem NK:∀(l:List Value) (i d:Nat),(G5 i l).at d=if i<=d then(match l[d - i]? with|some v=>v|none=>undef)else undef
 | [],i,d=>by
  have:(G5 i []:AF).at d=undef:=by simp[G5,AF.at,Tr.get_nil]
  rw[this];simp
 |v::l,i,d=>by
  simp only[G5,AF.at_set,NK l (i+1) d];by_cases h1:d=i
  ·subst h1;simp
  ·simp only[h1,if_false];by_cases h2:i+1<=d
   ·rw[if_pos h2,if_pos (by omega),show d - i=(d - (i+1))+1 by omega];rfl
   ·rw[if_neg h2,if_neg (by omega)]
theorem QF(hr:Rel B0 G ι m w)(ht:Be ι n t a):∀{l:List ResultVar} {vs:List Value},DK P t m l=some vs->
  ∃vs',(l.mapM (λ(q:ResultVar)=>(match q with| .tmp t=>(pure (a.tmps.getD t undef):Sem Value)| .cell x t=>(do loadVar t (←asAddr (a.tmps.getD x undef)):Sem Value)))).run P w= .ok vs' w/\Bb ι vs vs'
 | [],vs,h=>by simp[DK]at h;subst h;exact⟨[],by simp, .nil⟩
 | .tmp d::l,vs,h=>by
  simp only[DK]at h;split at h<;>simp at h;rename_i us hus;subst h;obtain⟨us',h1,h2⟩:=QF hr ht hus;refine⟨a.tmps.getD d undef::us',?_, .cons (ht.2 d) h2⟩;rw[List.mapM_cons];simp only[Sem.run_bind,Sem.run_pure,Result.andThen_ok,h1]
 | .cell x ty::l,vs,h=>by
  simp only[DK]at h;split at h<;>try (simp at h;done)
  rename_i v hv;split at h<;>simp at h;rename_i us hus;subst h;obtain⟨us',h1,h2⟩:=QF hr ht hus;obtain⟨v',g1,g2⟩:=Rb (P:=P) hr (ht.2 x) hv
  have hp:∃ad,a.tmps.getD x undef= .pointer (some ad):=by
   have:=ht.2 x;unfold EF at hv;split at hv<;>try (simp at hv;done)
   rename_i b off hb;rw[hb]at this;obtain⟨L,_,e⟩:=this.inv_ptr;exact⟨_,e⟩
  obtain⟨ad,had⟩:=hp;refine⟨v'::us',?_, .cons g2 h2⟩;rw[List.mapM_cons];rw[had]at g1;simp only[Instr.loadAt,Instr.sureAddr,Sem.run_bind,Sem.run_pure,Result.andThen_ok]at g1;have hA:(asAddr (a.tmps.getD x undef)).run P w= .ok ad w:=by rw[had];rfl
  simp only[Sem.run_bind,Sem.run_pure,Result.andThen_ok,hA,g1,h1]
theorem H2(hr:Rel B0 G ι m w)(ht:Be ι n t a){fn:Func}{vs:List Value}(h:DK P t m fn.results.toList=some vs):∃v',(results fn a.tmps).run P w= .ok v' w/\AZ ι (F6 vs) v':=by
 obtain⟨vs',h1,h2⟩:=QF hr ht h
 have hm:(fn.results.mapM (λ(q:ResultVar)=>(match q with| .tmp t=>(pure (a.tmps.getD t undef):Sem Value)| .cell x t=>(do loadVar t (←asAddr (a.tmps.getD x undef)):Sem Value)))).run P w= .ok vs'.toArray w:=by
  rw[Array.mapM_eq_mapM_toList];simp only[Sem.run_map,h1,Result.andThen_ok]
 refine⟨if h:vs'.toArray.size=1 then vs'.toArray[0]else .tuple vs'.toArray,?_,?_⟩
 ·simp only[results,Sem.run_bind];change (((fn.results.mapM (λ(q:ResultVar)=>(match q with| .tmp t=>(pure (a.tmps.getD t undef):Sem Value)| .cell x t=>(do loadVar t (←asAddr (a.tmps.getD x undef)):Sem Value)))).run P w).andThen _)=_;rw[hm];rfl
 ·cases h2 with
  |nil=>exact AZ.tuple' .nil
  |cons h0 t0=>
   cases t0 with
   |nil=>simpa[F6]using h0
   |cons h0' t0'=>
    simp only[F6];rw[dif_neg (by simp)];exact AZ.tuple' (.cons h0 (.cons h0' t0'))
def PY(P:Program):Prop:=∀(f:FuncId) (fn:Func),P.funcs[f]?=some fn→fn.body.isNone=false→(fn.name== "runtime.NumGoroutine")=false
theorem KC(Bu:P.follows .mixedOrders=true)(hK:Plain P K)(Ed:PY P):∀(k:Nat),CR P B0 G (DH P K G k)
 |0=>⟨λf args m v m' h=>by simp[DH]at h,λf args m v m' h=>by simp[DH]at h,λf args m v m' h=>by simp[DH]at h⟩
 |k+1=>by
  have ih:=KC Bu hK Ed k;refine⟨λf args m v m' h=>(Fw (k+1) f args m v m' h).size,λf args m v m' h=>?_,λf args m v m' h=>?_⟩
  ·simp only[DH]at h;split at h<;>try (simp at h;done)
   rename_i fn hfn;split at h<;>try (simp at h;done)
   rename_i c hc;intro ι w args' hr hf hargs;have hlen:=hargs.length
   have ht0:Be ι (max args.length fn.ntmps) (G5 0 args) {tmps:=args'.toArray++Array.replicate (fn.ntmps - args'.toArray.size) undef,defers:= []}:=by
    refine⟨by simp;omega,λd=>?_⟩;rw[NK];simp only[Nat.zero_le,if_true,Nat.sub_zero];cases hd:args[d]? with
    |some v=>
     obtain⟨y,hy,hry⟩:=hargs.get hd
     have hlt:d<args'.length:=by
      rcases Nat.lt_or_ge d args'.length with h1|h1
      ·exact h1
      ·rw[List.getElem?_eq_none h1]at hy;cases hy
     have:(args'.toArray++Array.replicate (fn.ntmps - args'.toArray.size) undef).getD d undef=y:=by
      rw[Array.getD_eq_getD_getElem?,Array.getElem?_append_left (by simpa using hlt),List.getElem?_toArray,hy];rfl
     rw[this];exact hry
    |none=>
     have hge:args.length<=d:=List.getElem?_eq_none_iff.1 hd
     have:(args'.toArray++Array.replicate (fn.ntmps - args'.toArray.size) undef).getD d undef=undef:=by
      rw[Array.getD_eq_getD_getElem?,Array.getElem?_append_right (by simp;omega),Array.getElem?_replicate];split<;>rfl
     rw[this];exact AZ.undef _
   have fin:∀(e:Ex) (t':AF) (m₁:Mem),AI P K G (DH P K G k) (AV P K G (DH P K G k) (max args.length fn.ntmps)) (max args.length fn.ntmps) k c (G5 0 args) m=some (e,t',m₁)->(e= .normal\/e= .ret)->
     (match DK P t' m₁ fn.results.toList with|some vs=>some (F6 vs,m₁)|none=>none)=some (v,m')->
     Calls P f args'.toArray w λe w'=>∃v' ι',e= .returned v'/\AZ ι' v v'/\Rel B0 G ι' m' w'/\EP ι ι' m m' w w':=by
    intro e t' m₁ hcode he hres;split at hres<;>simp at hres;rename_i vs hvs;obtain⟨rfl,rfl⟩:=hres;refine calls_of_wp hfn hc (KK hK ih (LF Bu hK ih (Fw k)) c _ _ _ _ _ hcode ι w _ _ hr ht0 hf λa' w' ha=>?_);obtain⟨ι',g1,g2,g3,g4⟩:=ha;obtain⟨v',q1,q2⟩:=H2 (P:=P) g2 g1 hvs;rcases he with rfl|rfl
    ·exact⟨g4,v',q1,v',ι',rfl,q2,g2,g3⟩
    ·exact⟨g4,v',q1,v',ι',rfl,q2,g2,g3⟩
   split at h<;>try (simp at h;done)
   ·rename_i t' m₁ hcode;exact fin _ _ _ hcode (.inl rfl) h
   ·rename_i t' m₁ hcode;exact fin _ _ _ hcode (.inr rfl) h
  ·simp only[DH]at h;split at h<;>try (simp at h;done)
   rename_i fn hfn;split at h<;>try (simp at h;done)
   rename_i c hc;exact⟨fn,hfn,by simp[hc],Ed f fn hfn (by simp[hc])⟩
end
end Go.DI
namespace Go.DI
section
variable{α:Type}
def Ev(r:Option (Value×Mem))(k:Value->Mem->Option α):Option α:=match r with|some (v,m)=>k v m|none=>none
theorem iF{c:Prop} [Decidable c] (a:Option (Value×Mem)) (k:Value->Mem->Option α):Ev (if c then a else none) k=if c then Ev a k else none:=by split<;>rfl
theorem aZ{c:Prop} [Decidable c] {a b x:Option α} (h:c->a=b):(if c then a else x)=(if c then b else x):=by
 split
 ·exact h ‹_›
 ·rfl
section
variable(P:Program)(K:TypeId->Bool)(G:Nat)
end
end
end Go.DI
namespace Go.DI.Y
noncomputable section
variable{α:Type}
def ob{β:Type}(r:Option β)(q:β->Option α):Option α:=match r with|some v=>q v|none=>none
@[simp] theorem ob_some {β:Type} (v:β) (q:β->Option α):ob (some v) q=q v:=rfl
@[simp] theorem Vd {β:Type} (q:β->Option α):ob none q=none:=rfl
section
variable{β:Type}
def ko(l:List (Nat×β)):Nat->Option β:=
 List.rec (motive:=λ_=>Nat->Option β) (λ_=>none) (λx _ ih k=>Prod.rec (motive:=λ_=>Option β) (λj v=>Bool.rec (motive:=λ_=>Option β) (ih k) (some v) (Nat.beq j k)) x) l
theorem SG(k:Nat):∀l:List (Nat×β),ko l k=Tr.look k l
 | []=>rfl
 |(j,v)::l=>by
  have ih:=SG k l;simp only[Tr.look];rw[←ih];show Bool.rec (motive:=λ_=>Option β) _ _ (Nat.beq j k)=_;cases Nat.beq j k<;>rfl
def iG(t:Tr β):Nat->Nat->Option β:=
 Tr.rec (motive:=λ_=>Nat->Nat->Option β) (λ_ _=>none)
  (λl _ k=>ko l k)
  (λ_ _ il ir p k=>Nat.rec (motive:=λ_=>Option β) (il (Nat.div p 2) k) (λ_ _=>ir (Nat.div p 2) k) (Nat.mod p 2)) t
theorem LV(p:Nat):(Nat.mod p 2=0/\Nat.beq (p % 2) 0=true)\/(Nat.mod p 2=1/\Nat.beq (p % 2) 0=false):=by
 have:p % 2=0\/p % 2=1:=by omega
 rcases this with h|h
 ·exact .inl ⟨h,by rw[h];rfl⟩
 ·exact .inr ⟨h,by rw[h];rfl⟩
theorem MS(k:Nat):∀(t:Tr β) (p:Nat),iG t p k=Tr.get t p k
 | .nil,p=>rfl
 | .bucket l,p=>SG k l
 | .node l r,p=>by
   have il:=MS k l (p / 2);have ir:=MS k r (p / 2);simp only[Tr.get];rw[←il,←ir];show Nat.rec (motive:=λ_=>Option β) _ _ (Nat.mod p 2)=_;rcases LV p with⟨h1,h2⟩|⟨h1,h2⟩<;>rw[h1,h2] <;>rfl
def nw(key:Nat)(v:β)(l:List (Nat×β)):(List (Nat×β)->Option α)->Option α:=
 List.rec (motive:=λ_=>(List (Nat×β)->Option α)->Option α) (λq=>q [(key,v)])
  (λx l ih q=>Prod.rec (motive:=λ_=>Option α) (λj u=>Bool.rec (motive:=λ_=>Option α) (ih λr=>q ((j,u)::r)) (q ((key,v)::l)) (Nat.beq j key)) x) l
theorem Ve(key:Nat)(v:β):∀(l:List (Nat×β)) (q:List (Nat×β)->Option α),nw key v l q=q (Tr.upd key v l)
 | [],q=>rfl
 |(j,u)::l,q=>by
  have ih:=Ve key v l λr=>q ((j,u)::r);simp only[Tr.upd];show Bool.rec (motive:=λ_=>Option α) (nw key v l λr=>q ((j,u)::r)) _ (Nat.beq j key)=_;rw[ih];cases Nat.beq j key<;>rfl
def iH(d:Nat):Nat->Nat->β->(Tr β->Option α)->Option α:=
 Nat.rec (motive:=λ_=>Nat->Nat->β->(Tr β->Option α)->Option α) (λ_ key v q=>q (.bucket [(key,v)]))
  (λ_ ih p key v q=>Nat.rec (motive:=λ_=>Option α) (ih (Nat.div p 2) key v λl=>q (.node l .nil)) (λ_ _=>ih (Nat.div p 2) key v λr=>q (.node .nil r)) (Nat.mod p 2)) d
theorem Vf(key:Nat)(v:β):∀(d p:Nat) (q:Tr β->Option α),iH d p key v q=q (Tr.new d p key v)
 |0,p,q=>rfl
 |d+1,p,q=>by
  have ih:=Vf key v d (p / 2);simp only[Tr.new];show Nat.rec (motive:=λ_=>Option α) (iH d (p / 2) key v λl=>q (.node l .nil)) (λ_ _=>iH d (p / 2) key v λr=>q (.node .nil r)) (Nat.mod p 2)=_;rw[ih,ih];rcases LV p with⟨h1,h2⟩|⟨h1,h2⟩<;>rw[h1,h2] <;>rfl
def iI(t:Tr β):Nat->Nat->Nat->β->(Tr β->Option α)->Option α:=
 Tr.rec (motive:=λ_=>Nat->Nat->Nat->β->(Tr β->Option α)->Option α)
  (λd p key v q=>iH d p key v q)
  (λl _ _ key v q=>nw key v l λl=>q (.bucket l))
  (λl r il ir d p key v q=>Nat.rec (motive:=λ_=>Option α) (il (Nat.sub d 1) (Nat.div p 2) key v λl=>q (.node l r)) (λ_ _=>ir (Nat.sub d 1) (Nat.div p 2) key v λr=>q (.node l r)) (Nat.mod p 2)) t
theorem QW(key:Nat)(v:β):∀(t:Tr β) (d p:Nat) (q:Tr β->Option α),iI t d p key v q=q (Tr.put t d p key v)
 | .nil,d,p,q=>Vf key v d p q
 | .bucket l,d,p,q=>Ve key v l _
 | .node l r,d,p,q=>by
   have il:=λq=>QW key v l (d - 1) (p / 2) q;have ir:=λq=>QW key v r (d - 1) (p / 2) q;simp only[Tr.put];show Nat.rec (motive:=λ_=>Option α) (iI l (d - 1) (p / 2) key v λl=>q (.node l r)) (λ_ _=>iI r (d - 1) (p / 2) key v λr=>q (.node l r)) (Nat.mod p 2)=_;rw[il,ir];rcases LV p with⟨h1,h2⟩|⟨h1,h2⟩<;>rw[h1,h2] <;>rfl
end
def Vg(t:AF)(d:Nat)(v:Value)(q:AF->Option α):Option α:=iI t 6 d d v q
theorem SH(t:AF)(d:Nat)(v:Value)(q:AF->Option α):Vg t d v q=q (t.set d v):=QW _ _ _ _ _ _
def KX(m:Mem)(b:Nat)(x:BI)(q:Mem->Option α):Option α:=q (m.set b x)
theorem KY(m:Mem)(b:Nat)(x:BI)(q:Mem->Option α):KX m b x q=q (m.set b x):=rfl
def OR(n:Nat)(q:Nat->Option α):Option α:=q n
theorem H7(n:Nat)(q:Nat->Option α):OR n q=q n:=rfl
def QX(m:Mem)(x:BI)(q:Mem->Option α):Option α:=q (m.push x)
theorem Iy(m:Mem)(x:BI)(q:Mem->Option α):QX m x q=q (m.push x):=rfl
def Nq(t:AF)(d:Nat)(q:Value->Option α):Option α:=Option.rec (motive:=λ_=>Option α) (q undef) (λv=>q v) (iG t d d)
theorem Nr(t:AF)(d:Nat)(q:Value->Option α):Nq t d q=q (t.at d):=by
 unfold Nq AF.at
 rw[MS]
 cases Tr.get t d d<;>rfl
def PN(m:Mem)(b:Nat):BI:=m.get b
theorem KZ(m:Mem)(b:Nat):PN m b=m.get b:=rfl
def cellsOf(x:BI):(Bool->List Value->Option α)->Option α:=BI.rec (motive:=λ_=>(Bool->List Value->Option α)->Option α) (λ_=>none) (λo c q=>q o c) (λ_ _ _ _=>none) (λ_ _ _=>none) x
def JH(v:Value):(Nat->Nat->Option α)->Option α:=
 Value.rec (motive_1:=λ_=>(Nat->Nat->Option α)->Option α) (motive_2:=λ_=>Unit) (motive_3:=λ_=>Unit)
  (λ_ _=>none)
  (λ_ _ _=>none)
  (λ_ _ _=>none)
  (λ_ _ _ _=>none)
  (λ_ _=>none)
  (λa q=>Option.rec (motive:=λ_=>Option α) none (λad=>Addr.rec (motive:=λ_=>Option α) (λb off sp=>Option.rec (motive:=λ_=>Option α) (q b off) (λ_=>none) sp) ad) a)
  (λ_ _ _ _=>none)
  (λ_ _=>none)
  (λ_ _=>none)
  (λ_ _ _ _ _ _=>none)
  (λ_=>none)
  (λ_ _ _ _=>none)
  (λ_=>none)
  (λ_ _ _=>none)
  (λ_ _ _=>none)
  (λ_ _=>()) () (λ_ _ _ _=>()) v
def PA(v:Value):(Nat->Nat->Nat->Option α)->Option α:=
 Value.rec (motive_1:=λ_=>(Nat->Nat->Nat->Option α)->Option α) (motive_2:=λ_=>Unit) (motive_3:=λ_=>Unit)
  (λ_ _=>none)
  (λ_ _ _=>none)
  (λ_ _ _=>none)
  (λ_ _ _ _=>none)
  (λ_ _=>none)
  (λ_ _=>none)
  (λa n _ q=>Option.rec (motive:=λ_=>Option α) none (λad=>Addr.rec (motive:=λ_=>Option α) (λb off _=>q b off n) ad) a)
  (λ_ _=>none)
  (λ_ _=>none)
  (λ_ _ _ _ _ _=>none)
  (λ_=>none)
  (λ_ _ _ _=>none)
  (λ_=>none)
  (λ_ _ _=>none)
  (λ_ _ _=>none)
  (λ_ _=>()) () (λ_ _ _ _=>()) v
def asAgg(v:Value):(Array Value->Option α)->Option α->Option α:=
 Value.rec (motive_1:=λ_=>(Array Value->Option α)->Option α->Option α) (motive_2:=λ_=>Unit) (motive_3:=λ_=>Unit)
  (λ_ _ d=>d)
  (λ_ _ _ d=>d)
  (λ_ _ _ d=>d)
  (λ_ _ _ _ d=>d)
  (λ_ _ d=>d)
  (λ_ _ d=>d)
  (λ_ _ _ _ d=>d)
  (λ_ _ d=>d)
  (λ_ _ d=>d)
  (λ_ _ _ _ _ _ d=>d)
  (λ_ d=>d)
  (λ_ _ _ _ d=>d)
  (λ_ d=>d)
  (λcs _ q _=>q cs)
  (λ_ _ _ d=>d)
  (λ_ _=>()) () (λ_ _ _ _=>()) v
def asSl(v:Value):(Option Addr->Nat->Nat->Option α)->Option α->Option α:=
 Value.rec (motive_1:=λ_=>(Option Addr->Nat->Nat->Option α)->Option α->Option α) (motive_2:=λ_=>Unit) (motive_3:=λ_=>Unit)
  (λ_ _ d=>d)
  (λ_ _ _ d=>d)
  (λ_ _ _ d=>d)
  (λ_ _ _ _ d=>d)
  (λ_ _ d=>d)
  (λ_ _ d=>d)
  (λa n c q _=>q a n c)
  (λ_ _ d=>d)
  (λ_ _ d=>d)
  (λ_ _ _ _ _ _ d=>d)
  (λ_ d=>d)
  (λ_ _ _ _ d=>d)
  (λ_ d=>d)
  (λ_ _ _ d=>d)
  (λ_ _ _ d=>d)
  (λ_ _=>()) () (λ_ _ _ _=>()) v
def asPt(v:Value):(Option Addr->Option α)->Option α->Option α:=
 Value.rec (motive_1:=λ_=>(Option Addr->Option α)->Option α->Option α) (motive_2:=λ_=>Unit) (motive_3:=λ_=>Unit)
  (λ_ _ d=>d)
  (λ_ _ _ d=>d)
  (λ_ _ _ d=>d)
  (λ_ _ _ _ d=>d)
  (λ_ _ d=>d)
  (λa q _=>q a)
  (λ_ _ _ _ d=>d)
  (λ_ _ d=>d)
  (λ_ _ d=>d)
  (λ_ _ _ _ _ _ d=>d)
  (λ_ d=>d)
  (λ_ _ _ _ d=>d)
  (λ_ d=>d)
  (λ_ _ _ d=>d)
  (λ_ _ _ d=>d)
  (λ_ _=>()) () (λ_ _ _ _=>()) v
def asTup(v:Value):(Array Value->Option α)->Option α:=
 Value.rec (motive_1:=λ_=>(Array Value->Option α)->Option α) (motive_2:=λ_=>Unit) (motive_3:=λ_=>Unit)
  (λ_ _=>none)
  (λ_ _ _=>none)
  (λ_ _ _=>none)
  (λ_ _ _ _=>none)
  (λ_ _=>none)
  (λ_ _=>none)
  (λ_ _ _ _=>none)
  (λ_ _=>none)
  (λ_ _=>none)
  (λ_ _ _ _ _ _=>none)
  (λ_=>none)
  (λ_ _ _ _=>none)
  (λ_=>none)
  (λ_ _ _=>none)
  (λcs _ q=>q cs)
  (λ_ _=>()) () (λ_ _ _ _=>()) v
def asInt(v:Value):(IntKind->Int->Option α)->Option α->Option α:=
 Value.rec (motive_1:=λ_=>(IntKind->Int->Option α)->Option α->Option α) (motive_2:=λ_=>Unit) (motive_3:=λ_=>Unit)
  (λ_ _ d=>d)
  (λk n q _=>q k n)
  (λ_ _ _ d=>d)
  (λ_ _ _ _ d=>d)
  (λ_ _ d=>d)
  (λ_ _ d=>d)
  (λ_ _ _ _ d=>d)
  (λ_ _ d=>d)
  (λ_ _ d=>d)
  (λ_ _ _ _ _ _ d=>d)
  (λ_ d=>d)
  (λ_ _ _ _ d=>d)
  (λ_ d=>d)
  (λ_ _ _ d=>d)
  (λ_ _ _ d=>d)
  (λ_ _=>()) () (λ_ _ _ _=>()) v
def asBool(v:Value):Option α->Option α->Option α:=
 Value.rec (motive_1:=λ_=>Option α->Option α->Option α) (motive_2:=λ_=>Unit) (motive_3:=λ_=>Unit)
  (λb x y=>Bool.rec (motive:=λ_=>Option α) y x b)
  (λ_ _ _ _=>none)
  (λ_ _ _ _=>none)
  (λ_ _ _ _ _=>none)
  (λ_ _ _=>none)
  (λ_ _ _=>none)
  (λ_ _ _ _ _=>none)
  (λ_ _ _=>none)
  (λ_ _ _=>none)
  (λ_ _ _ _ _ _ _=>none)
  (λ_ _=>none)
  (λ_ _ _ _ _=>none)
  (λ_ _=>none)
  (λ_ _ _ _=>none)
  (λ_ _ _ _=>none)
  (λ_ _=>()) () (λ_ _ _ _=>()) v
def asBo(v:Value):(Bool->Option α)->Option α->Option α:=
 Value.rec (motive_1:=λ_=>(Bool->Option α)->Option α->Option α) (motive_2:=λ_=>Unit) (motive_3:=λ_=>Unit)
  (λb q _=>q b)
  (λ_ _ _ d=>d)
  (λ_ _ _ d=>d)
  (λ_ _ _ _ d=>d)
  (λ_ _ d=>d)
  (λ_ _ d=>d)
  (λ_ _ _ _ d=>d)
  (λ_ _ d=>d)
  (λ_ _ d=>d)
  (λ_ _ _ _ _ _ d=>d)
  (λ_ d=>d)
  (λ_ _ _ _ d=>d)
  (λ_ d=>d)
  (λ_ _ _ d=>d)
  (λ_ _ _ d=>d)
  (λ_ _=>()) () (λ_ _ _ _=>()) v
def QL(v:Value):(FuncId->List Value->List Value->Option α)->Option α:=
 Value.rec (motive_1:=λ_=>(FuncId->List Value->List Value->Option α)->Option α) (motive_2:=λ_=>Unit) (motive_3:=λ_=>Unit)
  (λ_ _=>none)
  (λ_ _ _=>none)
  (λ_ _ _=>none)
  (λ_ _ _ _=>none)
  (λ_ _=>none)
  (λ_ _=>none)
  (λ_ _ _ _=>none)
  (λ_ _=>none)
  (λ_ _=>none)
  (λfn a b _ _ q=>match fn with| .func f=>q f a.toList b.toList|_=>none)
  (λ_=>none)
  (λ_ _ _ _=>none)
  (λ_=>none)
  (λ_ _ _=>none)
  (λ_ _ _=>none)
  (λ_ _=>()) () (λ_ _ _ _=>()) v
def a7(v:Value):Bool:=
 Value.rec (motive_1:=λ_=>Bool) (motive_2:=λ_=>Unit) (motive_3:=λ_=>Unit)
  (λ_=>true)
  (λ_ _=>true)
  (λ_ _=>true)
  (λ_ _ _=>true)
  (λ_=>true)
  (λ_=>true)
  (λ_ _ _=>true)
  (λ_=>true)
  (λ_=>true)
  (λ_ _ _ _ _=>true)
  true
  (λ_ _ _=>true)
  true
  (λ_ _=>false)
  (λ_ _=>false)
  (λ_ _=>()) () (λ_ _ _ _=>()) v
def isB(v:Value):Bool:=
 Value.rec (motive_1:=λ_=>Bool) (motive_2:=λ_=>Unit) (motive_3:=λ_=>Unit)
  (λ_=>true)
  (λ_ _=>false)
  (λ_ _=>false)
  (λ_ _ _=>false)
  (λ_=>false)
  (λ_=>false)
  (λ_ _ _=>false)
  (λ_=>false)
  (λ_=>false)
  (λ_ _ _ _ _=>false)
  false
  (λ_ _ _=>false)
  false
  (λ_ _=>false)
  (λ_ _=>false)
  (λ_ _=>()) () (λ_ _ _ _=>()) v
def wT(v:Value):Bool:=
 Value.rec (motive_1:=λ_=>Bool) (motive_2:=λ_=>Unit) (motive_3:=λ_=>Unit)
  (λb=>b)
  (λ_ _=>false)
  (λ_ _=>false)
  (λ_ _ _=>false)
  (λ_=>false)
  (λ_=>false)
  (λ_ _ _=>false)
  (λ_=>false)
  (λ_=>false)
  (λ_ _ _ _ _=>false)
  false
  (λ_ _ _=>false)
  false
  (λ_ _=>false)
  (λ_ _=>false)
  (λ_ _=>()) () (λ_ _ _ _=>()) v
theorem GJ(v:Value)(q:Nat->Nat->Option α):JH v q=match v with| .pointer (some ⟨b,off,none⟩)=>q b off|_=>none:=by
 cases v<;>try rfl
 rename_i a
 cases a with
 |none=>rfl
 |some a=>obtain⟨b,off,sp⟩:=a;cases sp<;>rfl
theorem ab(v:Value)(q:Nat->Nat->Nat->Option α):PA v q=match v with| .slice (some ⟨b,off,_⟩) n _=>q b off n|_=>none:=by
 cases v<;>try rfl
 rename_i a _ _
 cases a<;>rfl
theorem Vh(v:Value):a7 v=one v:=by cases v<;>rfl
def ae(v:Value)(q:List Value->Option α):Option α:=asAgg v (λcs=>q cs.toList) (q [v])
theorem Xz(v:Value)(q:List Value->Option α):ae v q=q v.cells.toList:=by cases v<;>rfl
def nthL(c:List Value):Nat->Option Value:=
 List.rec (motive:=λ_=>Nat->Option Value) (λ_=>none) (λa _ ih i=>Nat.rec (motive:=λ_=>Option Value) (some a) (λi' _=>ih i') i) c
theorem nthL_eq:∀(c:List Value) (i:Nat),nthL c i=c[i]?
 | [],i=>by simp;rfl
 |a::c,0=>rfl
 |a::c,i+1=>by
  have:=nthL_eq c i;rw[List.getElem?_cons_succ];exact this
def af(c:List Value)(i:Nat)(q:Value->Option α):Option α:=Option.rec (motive:=λ_=>Option α) none (λv=>q v) (nthL c i)
theorem QY(q:Value->Option α)(c:List Value)(i:Nat):af c i q=ob c[i]? q:=by
 unfold af
 rw[nthL_eq]
 cases c[i]?<;>rfl
def lenLF(l:List Value):Nat:=List.rec (motive:=λ_=>Nat) Nat.zero (λ_ _ ih=>Nat.succ ih) l
theorem lenLF_eq:∀l:List Value,lenLF l=l.length
 | []=>rfl
 |a::l=>by
  have:=lenLF_eq l;show Nat.succ (lenLF l)=_;rw[this];rfl
def kq(c:List Value)(n:Nat):List Value:=
 Nat.rec (motive:=λ_=>List Value->List Value) (λc=>c) (λ_ ih c=>List.rec (motive:=λ_=>List Value) [] (λ_ c' _=>ih c') c) n c
theorem SI:∀(c:List Value) (i:Nat),kq c i=c.drop i
 |c,0=>rfl
 | [],i+1=>rfl
 |a::c,i+1=>by
  rw[List.drop_succ_cons];exact SI c i
def kr(c:List Value):Nat->List Value:=
 List.rec (motive:=λ_=>Nat->List Value) (λ_=> []) (λa _ ih i=>Nat.rec (motive:=λ_=>List Value) [] (λi' _=>a::ih i') i) c
theorem SJ:∀(c:List Value) (i:Nat),kr c i=c.take i
 | [],i=>by simp;rfl
 |a::c,0=>rfl
 |a::c,i+1=>by
  rw[List.take_succ_cons,←SJ c i];rfl
def subL(c:List Value)(off n:Nat):List Value:=kr (kq c off) n
theorem subL_eq(c:List Value)(off n:Nat):subL c off n=(c.drop off).take n:=by rw[subL,SJ,SI]
def nx(c:List Value)(off n:Nat)(q:List Value->Option α):Option α:=Bool.rec (motive:=λ_=>Option α) none (q (subL c off n)) (Nat.ble (Nat.add off n) (lenLF c))
theorem iJ(n:Nat)(q:List Value->Option α)(c:List Value)(off:Nat):nx c off n q=if off+n<=c.length then q ((c.drop off).take n)else none:=by
 unfold nx
 rw[lenLF_eq,subL_eq]
 show Bool.rec (motive:=λ_=>Option α) none _ (Nat.ble (off+n) c.length)=_
 by_cases h:off+n<=c.length
 ·rw[if_pos h,Nat.ble_eq_true_of_le h]
 ·rw[if_neg h,show Nat.ble (off+n) c.length=false from Bool.eq_false_iff.2 λg=>h (Nat.le_of_ble_eq_true g)]
def Vi(vs:List Value):List Value->(List Value->Option α)->Option α:=
 List.rec (motive:=λ_=>List Value->(List Value->Option α)->Option α) (λc q=>q c)
  (λv _ ih c q=>List.rec (motive:=λ_=>Option α) none (λ_ c' _=>Bool.rec (motive:=λ_=>Option α) none (ih c' λr=>q (v::r)) (a7 v)) c) vs
theorem Ns:∀(vs c:List Value) (q:List Value->Option α),Vi vs c q=if vs.length<=c.length/\vs.all one=true then q (vs++c.drop vs.length)else none
 | [],c,q=>by simp;rfl
 |v::vs,[],q=>by simp;rfl
 |v::vs,a::c,q=>by
  have ih:=Ns vs c λr=>q (v::r);show Bool.rec (motive:=λ_=>Option α) none (Vi vs c λr=>q (v::r)) (a7 v)=_;rw[ih,Vh];cases h:one v<;>simp[h]
def MT(c:List Value):Nat->List Value->(List Value->Option α)->Option α:=
 List.rec (motive:=λ_=>Nat->List Value->(List Value->Option α)->Option α) (λoff vs q=>Nat.rec (motive:=λ_=>Option α) (Vi vs [] q) (λ_ _=>none) off)
  (λa c ih off vs q=>Nat.rec (motive:=λ_=>Option α) (Vi vs (a::c) q) (λoff' _=>ih off' vs λr=>q (a::r)) off) c
theorem H8(vs:List Value):∀(c:List Value) (off:Nat) (q:List Value->Option α),MT c off vs q=if off+vs.length<=c.length then(if vs.all one=true then q (splice c off vs)else none)else none
 | [],0,q=>by
  have:=Ns vs [] q;simp only[splice,Nat.zero_add,List.take_zero,List.nil_append];refine Eq.trans this ?_;by_cases h1:vs.length<=([]:List Value).length<;>by_cases h2:vs.all one=true<;>simp only[h1,h2,and_true,and_false,if_true,if_false,true_and,false_and]
 | [],off+1,q=>by rw[if_neg (by simp)];rfl
 |a::c,0,q=>by
  have:=Ns vs (a::c) q;simp only[splice,Nat.zero_add,List.take_zero,List.nil_append];refine Eq.trans this ?_;by_cases h1:vs.length<=(a::c).length<;>by_cases h2:vs.all one=true<;>simp only[h1,h2,and_true,and_false,if_true,if_false,true_and,false_and]
 |a::c,off+1,q=>by
  have ih:=H8 vs c off λr=>q (a::r);have e:(off+1+vs.length<=(a::c).length)=(off+vs.length<=c.length):=by simp;omega
  have e2:splice (a::c) (off+1) vs=a::splice c off vs:=by
   have:off+1+vs.length=(off+vs.length)+1:=by omega
   simp[splice,this]
  simp only[e,e2];exact ih
def QM(a:List Value):List Value->(List Value->Option α)->Option α:=
 List.rec (motive:=λ_=>List Value->(List Value->Option α)->Option α) (λb q=>q b) (λx _ ih b q=>ih b λr=>q (x::r)) a
theorem QO:∀(a b:List Value) (q:List Value->Option α),QM a b q=q (a++b)
 | [],b,q=>rfl
 |x::a,b,q=>QO a b λr=>q (x::r)
def evF(x:Operand):Nat->AF->(Value->Option α)->Option α:=
 Operand.rec (motive:=λ_=>Nat->AF->(Value->Option α)->Option α) (λd _ t q=>Nq t d q) (λv _ _ q=>Bool.rec (motive:=λ_=>Option α) none (q v) (EZ v))
  (λg G _ q=>Bool.rec (motive:=λ_=>Option α) none (q (.pointer (some ⟨g,0,none⟩))) (Nat.blt g G)) (λf _ _ q=>q (.func (.func f) #[] #[])) x
theorem B7(x:Operand)(G:Nat)(t:AF)(q:Value->Option α):evF x G t q=ob (ev G t x) q:=by
 cases x with
 |tmp d=>exact Nr t d q
 |const v=>
  show Bool.rec (motive:=λ_=>Option α) none (q v) (EZ v)=_;simp only[ev];cases EZ v<;>rfl
 |global g=>
  show Bool.rec (motive:=λ_=>Option α) none (q (.pointer (some ⟨g,0,none⟩))) (Nat.blt g G)=_;simp only[ev];by_cases h:g<G
  ·have:Nat.blt g G=true:=by simpa[Nat.blt_eq]using h
   rw[this,if_pos h];rfl
  ·have:Nat.blt g G=false:=by
    cases hb:Nat.blt g G with
    |false=>rfl
    |true=>exact absurd (by simpa[Nat.blt_eq]using hb) h
   rw[this,if_neg h];rfl
 |func f=>rfl
def Xo(l:List Operand):Nat->AF->(List Value->Option α)->Option α:=
 List.rec (motive:=λ_=>Nat->AF->(List Value->Option α)->Option α) (λ_ _ q=>q []) (λx _ ih G t q=>evF x G t λv=>ih G t λvs=>q (v::vs)) l
theorem QN(G:Nat)(t:AF):∀(l:List Operand) (q:List Value->Option α),Xo l G t q=ob (evs G t l) q
 | [],q=>rfl
 |x::l,q=>by
  have ih:=QN G t l;show(evF x G t λv=>Xo l G t λvs=>q (v::vs))=_;rw[B7];simp only[evs];cases ev G t x with
  |none=>rfl
  |some v=>
   simp only[ob_some,ih];cases evs G t l<;>rfl
end
end Go.DI.Y
namespace Go.DI.Y
noncomputable section
variable{α:Type}
theorem Tm(a b:Nat):Nat.beq a b=decide (a=b):=by
 rw[Bool.eq_iff_iff];simp[Nat.beq_eq]
def xw(k:IntKind):Nat:=IntKind.rec (motive:=λ_=>Nat) 0 1 2 3 4 5 6 7 k
def kEq(k k':IntKind):Bool:=Nat.beq (xw k) (xw k')
theorem Tz(k k':IntKind):kEq k k'=decide (k=k'):=by cases k<;>cases k'<;>rfl
def ah(k:IntKind)(n:Int)(q:Int->Option α):Option α:=q (k.wrap n)
def dg(b:Bool)(q:Value->Option α):Option α:=Bool.rec (motive:=λ_=>Option α) (q (.bool false)) (q (.bool true)) b
theorem IN(b:Bool)(q:Value->Option α):dg b q=q (.bool b):=by cases b<;>rfl
def ltF(x y:Int):Bool:=Int.rec (motive:=λ_=>Bool) (λa=>Int.rec (motive:=λ_=>Bool) (λb=>Nat.blt a b) (λ_=>false) y) (λa=>Int.rec (motive:=λ_=>Bool) (λ_=>true) (λb=>Nat.blt b a) y) x
theorem ltF_eq(x y:Int):ltF x y=decide (x<y):=by
 cases x<;>cases y
 ·rename_i a b;show Nat.blt a b=_;rw[Bool.eq_iff_iff];simp[Nat.blt_eq]
 ·show false=_;symm;rw[decide_eq_false_iff_not];simp only[Int.ofNat_eq_natCast];omega
 ·show true=_;symm;rw[decide_eq_true_iff];simp only[Int.ofNat_eq_natCast];omega
 ·rename_i a b;show Nat.blt b a=_;rw[Bool.eq_iff_iff];simp only[Nat.blt_eq,decide_eq_true_eq];omega
def eqF(x y:Int):Bool:=Int.rec (motive:=λ_=>Bool) (λa=>Int.rec (motive:=λ_=>Bool) (λb=>Nat.beq a b) (λ_=>false) y) (λa=>Int.rec (motive:=λ_=>Bool) (λ_=>false) (λb=>Nat.beq a b) y) x
theorem eqF_eq(x y:Int):eqF x y=(x==y):=by
 have hb:(x==y)=decide (x=y):=by rw[Bool.eq_iff_iff];simp
 rw[hb]
 cases x<;>cases y
 ·rename_i a b;show Nat.beq a b=_;rw[Tm];simp;omega
 ·show false=_;symm;rw[decide_eq_false_iff_not];simp only[Int.ofNat_eq_natCast];omega
 ·show false=_;symm;rw[decide_eq_false_iff_not];simp only[Int.ofNat_eq_natCast];omega
 ·rename_i a b;show Nat.beq a b=_;rw[Tm];simp
def ai(op:BinOp):IntKind->Int->Int->(Value->Option α)->Option α->Option α:=
 BinOp.rec (motive:=λ_=>IntKind->Int->Int->(Value->Option α)->Option α->Option α)
  (λk x y q _=>ah k (Int.add x y) λn=>q (.int k n))
  (λk x y q _=>ah k (Int.sub x y) λn=>q (.int k n))
  (λk x y q _=>ah k (Int.mul x y) λn=>q (.int k n))
  (λ_ _ _ _ g=>g) (λ_ _ _ _ g=>g) (λ_ _ _ _ g=>g) (λ_ _ _ _ g=>g) (λ_ _ _ _ g=>g) (λ_ _ _ _ g=>g) (λ_ _ _ _ g=>g) (λ_ _ _ _ g=>g)
  (λ_ x y q _=>dg (eqF x y) q)
  (λ_ x y q _=>dg (not (eqF x y)) q)
  (λ_ x y q _=>dg (ltF x y) q)
  (λ_ x y q _=>dg (not (ltF y x)) q)
  (λ_ x y q _=>dg (ltF y x) q)
  (λ_ x y q _=>dg (not (ltF x y)) q) op
theorem aj{op:BinOp}{k:IntKind}{x y:Int}{q:Value->Option α}{g:Option α}(hg:g=ob (cond (Bc op) (Kz op k x y) (Ba op k x y)) q):ai op k x y q g=g:=by
 cases op<;>try rfl
 all_goals simp only[Bc,cond_false,Ba,ob_some]at hg;subst hg
 ·rfl
 ·rfl
 ·rfl
 ·refine(IN _ _).trans ?_;rw[eqF_eq]
 ·refine(IN _ _).trans ?_;rw[eqF_eq];try rfl
 ·refine(IN _ _).trans ?_;rw[ltF_eq]
 ·refine(IN _ _).trans ?_;rw[ltF_eq];congr 2;rw[Bool.eq_iff_iff];simp
 ·refine(IN _ _).trans ?_;rw[ltF_eq];try rfl
 ·refine(IN _ _).trans ?_;rw[ltF_eq];congr 2;rw[Bool.eq_iff_iff];simp
section
variable(P:Program)(K:TypeId->Bool)
def iK(r:Option Value)(q:Value->Option α):Option α:=ob r q
theorem Vj(r:Option Value)(q:Value->Option α):iK r q=ob r q:=rfl
def wV(op:BinOp)(ty:TypeId)(x y:Value)(q:Value->Option α):Option α:=
 match x with
 | .agg xs=>(match y with
  | .agg ys=>(match K ty with
   |true=>(match op with
    | .eql=>Option.rec (motive:=λ_=>Option α) none (λr=>dg r q) (LA P K 100 ty (.agg xs) (.agg ys))
    | .neq=>Option.rec (motive:=λ_=>Option α) none (λr=>dg (not r) q) (LA P K 100 ty (.agg xs) (.agg ys))
    |_=>none)
   |false=>none)
  |_=>none)
 |x=>ob (B6 P K op ty x y) q
theorem ny(op:BinOp)(ty:TypeId)(x y:Value)(q:Value->Option α):wV P K op ty x y q=ob (B6 P K op ty x y) q:=by
 unfold wV
 cases x<;>try rfl
 cases y<;>try rfl
 simp only[B6]
 cases K ty with
 |false=>rfl
 |true=>
  cases op<;>try rfl
  all_goals
   simp only[if_true,Lu];cases LA P K 100 ty _ _ with
   |none=>rfl
   |some r=>exact IN _ _
def oA(op:BinOp)(ty:TypeId)(x y:Value)(q:Value->Option α):Option α:=
 (λg=>asInt x (λk a=>asInt y (λk' b=>Bool.rec (motive:=λ_=>Option α) g (ai op k a b q g) (kEq k k')) g) g) (wV P K op ty x y q)
theorem iL(op:BinOp)(ty:TypeId)(x y:Value)(q:Value->Option α):oA P K op ty x y q=ob (B6 P K op ty x y) q:=by
 unfold oA
 rw[ny]
 cases x<;>try rfl
 rename_i k a
 cases y<;>try rfl
 rename_i k' b
 show Bool.rec (motive:=λ_=>Option α) _ (ai op k a b q _) (kEq k k')=_
 rw[Tz]
 by_cases h:k=k'
 ·subst h;rw[decide_eq_true rfl];refine aj ?_;simp[B6]
 ·rw[decide_eq_false h]
def Lk(m:Mem)(ty:TypeId)(v:Value)(q:Value->Option α):Option α:=
 JH v λb off=>Option.rec (motive:=λ_=>Option α) none (λagg=>Bool.rec (motive:=λ_=>Option α) (cellsOf (PN m b) λ_ c=>af c off q)
  (Option.rec (motive:=λ_=>Option α) none (λn=>cellsOf (PN m b) λ_ c=>nx c off n λl=>q (.agg ⟨l⟩)) (Bz P ty)) agg) (GW P ty)
theorem H9(x:BI)(q:Bool->List Value->Option α):cellsOf x q=match x with| .cells o c=>q o c|_=>none:=by cases x<;>rfl
theorem KR(m:Mem)(ty:TypeId)(v:Value)(q:Value->Option α):Lk P m ty v q=ob (EF P m ty v) q:=by
 unfold Lk
 rw[GJ]
 unfold EF
 cases v<;>try rfl
 rename_i a
 cases a with
 |none=>rfl
 |some a=>
  obtain⟨b,off,sp⟩:=a;cases sp with
  |some _=>rfl
  |none=>
   simp only[KZ];cases GW P ty with
   |none=>rfl
   |some g=>
    cases g with
    |false=>
     simp only[H9];cases m.get b<;>try rfl
     exact QY _ _ _
    |true=>
     simp only;cases Bz P ty with
     |none=>rfl
     |some n=>
      simp only[H9,DB];cases m.get b<;>try rfl
      simp only[iJ];split<;>rfl
def QZ(l:List Value):Bool:=List.rec (motive:=λ_=>Bool) true (λv _ ih=>Bool.rec (motive:=λ_=>Bool) false ih (a7 v)) l
theorem Nt:∀l:List Value,QZ l=l.all one
 | []=>rfl
 |v::l=>by
  have ih:=Nt l;show Bool.rec (motive:=λ_=>Bool) false (QZ l) (a7 v)=_;rw[ih,Vh,List.all_cons];cases one v<;>rfl
def ak(c:List Value)(off n:Nat):Bool:=Bool.rec (motive:=λ_=>Bool) false (Nat.beq (lenLF c) n) (Nat.beq off 0)
def an(m:Mem)(b:Nat)(c:List Value)(off n:Nat)(l:List Value)(q:Mem->Option α):Option α:=
 Bool.rec (motive:=λ_=>Option α) (MT c off l λc'=>KX m b (.cells true c') q) (Bool.rec (motive:=λ_=>Option α) none (KX m b (.cells true l) q) (QZ l)) (ak c off n)
theorem ao(m:Mem)(b:Nat)(c:List Value)(off n:Nat)(l:List Value)(hl:l.length=n)(q:Mem->Option α):an m b c off n l q=MT c off l λc'=>KX m b (.cells true c') q:=by
 unfold an ak
 rw[lenLF_eq,Nt,Tm,Tm]
 by_cases h1:off=0
 ·by_cases h2:c.length=n
  ·subst h1 h2;rw[decide_eq_true rfl,decide_eq_true rfl,H8];have h3:0+l.length<=c.length:=by omega
   have h4:splice c 0 l=l:=by simp[splice,List.drop_of_length_le (show c.length<=l.length by omega)]
   rw[if_pos h3,h4];cases l.all one<;>simp[KX]
  ·subst h1;rw[decide_eq_true rfl,decide_eq_false h2]
 ·rw[decide_eq_false h1]
def storeF(m:Mem)(ty:TypeId)(v a:Value)(q:Mem->Option α):Option α:=
 JH a λb off=>Option.rec (motive:=λ_=>Option α) none (λn=>ae v λl=>Bool.rec (motive:=λ_=>Option α) none
  (cellsOf (PN m b) λo c=>Bool.rec (motive:=λ_=>Option α) none (an m b c off n l q) o) (Nat.beq (lenLF l) n)) (Bz P ty)
theorem storeF_eq(m:Mem)(ty:TypeId)(v a:Value)(q:Mem->Option α):storeF P m ty v a q=ob (Bx P m ty v a) q:=by
 unfold storeF
 rw[GJ]
 unfold Bx
 cases a<;>try rfl
 rename_i a
 cases a with
 |none=>rfl
 |some a=>
  obtain⟨b,off,sp⟩:=a;cases sp with
  |some _=>rfl
  |none=>
   simp only[Xz,KZ,H9,lenLF_eq];cases Bz P ty with
   |none=>rfl
   |some n=>
    simp only[Tm];by_cases h:v.cells.toList.length=n
    ·rw[decide_eq_true h,if_pos h];simp only[EX];cases m.get b<;>try rfl
     rename_i o c;cases o with
     |false=>rfl
     |true=>
      simp only[ao _ _ _ _ _ _ h,H8,KY];split
      ·split<;>rfl
      ·rfl
    ·rw[decide_eq_false h,if_neg h];rfl
def Tl(ty:TypeId)(v:Value)(q:Value->Option α):Option α:=
 match P.underlying ty with
 |some (.int k)=>asInt v (λk' n=>Bool.rec (motive:=λ_=>Option α) none (q (.int k n)) (kEq k k')) none
 |some .bool=>asBo v (λb=>q (.bool b)) none
 |some (.struct _)=>asAgg v (λcs=>q (.agg cs)) none
 |some (.array _ _)=>asAgg v (λcs=>q (.agg cs)) none
 |some (.slice _)=>asSl v (λa n c=>q (.slice a n c)) none
 |some (.pointer _)=>asPt v (λa=>q (.pointer a)) none
 |_=>q v
theorem IJ(ty:TypeId)(v:Value)(q:Value->Option α):Tl P ty v q=ob (T7 P ty (some v)) q:=by
 unfold Tl T7 Zs
 cases P.underlying ty with
 |none=>rfl
 |some d=>
  cases d<;>try rfl
  all_goals
   simp only;cases v<;>try rfl
   try
    rename_i k k' n;show Bool.rec (motive:=λ_=>Option α) _ _ (kEq k k')=_;simp only[Tz];by_cases h:k=k'
    ·subst h;simp[ob_some]
    ·simp[h,Vd]
def xy(s:TypeId)(f:Nat):Option Nat:=
 match P.underlying s with
 |some (.struct fields)=>match fields.toList[f]? with
  |some fd=>match Bz P fd.type with
   |some n=>if n=0 then none else some fd.offset
   |none=>none
  |none=>none
 |_=>none
def Jm(s:TypeId)(f:Nat)(v:Value)(q:Value->Option α):Option α:=
 JH v λb off=>Option.rec (motive:=λ_=>Option α) none (λo=>OR (Nat.add off o) λoff'=>q (.pointer (some ⟨b,off',none⟩))) (xy P s f)
theorem OS(s:TypeId)(f:Nat)(v:Value)(q:Value->Option α):Jm P s f v q=ob (GH P s f v) q:=by
 unfold Jm
 rw[GJ]
 unfold GH xy
 cases v<;>try rfl
 rename_i a
 cases a with
 |none=>rfl
 |some a=>
  obtain⟨b,off,sp⟩:=a;cases sp with
  |some _=>rfl
  |none=>
   simp only[H7];cases P.underlying s with
   |none=>rfl
   |some d=>
    cases d<;>try rfl
    rename_i fields;simp only;cases fields.toList[f]? with
    |none=>rfl
    |some fd=>
     simp only;cases Bz P fd.type with
     |none=>rfl
     |some n=>by_cases h:n=0<;>simp only[h,if_true,if_false] <;>rfl
def qn(t:TypeId):Option (Option Nat×Nat):=
 match P.underlying t with
 |some (.array len elem)=>match Bz P elem with|some size=>some (some len,size)|none=>none
 |some (.slice elem)=>match Bz P elem with|some size=>some (none,size)|none=>none
 |_=>none
def oB(b off size len:Nat)(i:Int)(q:Value->Option α):Option α:=
 Int.rec (motive:=λ_=>Option α) (λi=>Bool.rec (motive:=λ_=>Option α) none (OR (Nat.add off (Nat.mul i size)) λoff'=>q (.pointer (some ⟨b,off',none⟩))) (Nat.blt i len)) (λ_=>none) i
theorem Vk(b off size len:Nat)(i:Int)(q:Value->Option α):oB b off size len i q=ob (if 0<=i/\i< (len:Int)then some (.pointer (some ⟨b,off+i.toNat*size,none⟩))else none) q:=by
 cases i with
 |negSucc a=>rw[if_neg (by omega)];rfl
 |ofNat a=>
  show Bool.rec (motive:=λ_=>Option α) none (OR (Nat.add off (Nat.mul a size)) λoff'=>q (.pointer (some ⟨b,off',none⟩))) (Nat.blt a len)=_;by_cases h:a<len
  ·have hb:Nat.blt a len=true:=by simpa[Nat.blt_eq]using h
   rw[hb,if_pos ⟨by simp,by simpa using h⟩];exact H7 _ _
  ·have hb:Nat.blt a len=false:=by
    cases hb:Nat.blt a len with
    |false=>rfl
    |true=>exact absurd (by simpa[Nat.blt_eq]using hb) h
   rw[hb,if_neg (by simp only[Int.ofNat_eq_natCast];omega)];rfl
def Jn(t:TypeId)(x i:Value)(q:Value->Option α):Option α:=
 asInt i (λ_ i=>Option.rec (motive:=λ_=>Option α) none (λp=>Prod.rec (motive:=λ_=>Option α) (λa size=>
  Option.rec (motive:=λ_=>Option α) (PA x λb off len=>oB b off size len i q) (λlen=>JH x λb off=>oB b off size len i q) a) p) (qn P t)) none
theorem OT(t:TypeId)(x i:Value)(q:Value->Option α):Jn P t x i q=ob (E0 P t x i) q:=by
 unfold Jn E0 qn
 cases i<;>try rfl
 rename_i ik i
 show Option.rec (motive:=λ_=>Option α) none _ _=_
 cases P.underlying t with
 |none=>rfl
 |some d=>
  cases d<;>try rfl
  ·rename_i elem;simp only;cases Bz P elem with
   |none=>
    simp only;cases x<;>try rfl
    rename_i a _ _;cases a<;>rfl
   |some size=>
    simp only[ab];cases x<;>try rfl
    rename_i a n c;cases a with
    |none=>rfl
    |some a=>exact Vk _ _ _ _ _ _
  ·rename_i len elem;simp only;cases Bz P elem with
   |none=>
    simp only;cases x<;>try rfl
    rename_i a;cases a with
    |none=>rfl
    |some a=>obtain⟨b,off,sp⟩:=a;cases sp<;>rfl
   |some size=>
    simp only[GJ];cases x<;>try rfl
    rename_i a;cases a with
    |none=>rfl
    |some a=>
     obtain⟨b,off,sp⟩:=a;cases sp with
     |some _=>rfl
     |none=>exact Vk _ _ _ _ _ _
def xz(t:TypeId)(f:Nat):Option (TypeId×Nat):=
 match P.underlying t with
 |some (.struct fields)=>match fields.toList[f]? with
  |some fd=>some (fd.type,fd.offset)
  |none=>none
 |_=>none
def aq(l:List Value)(q:List Value->Option α):Option α:=q l
theorem K0(l:List Value)(q:List Value->Option α):aq l q=q l:=rfl
def ar(t:TypeId)(cs:List Value)(off:Nat)(q:Value->Option α):Option α:=
 Option.rec (motive:=λ_=>Option α) none (λagg=>Bool.rec (motive:=λ_=>Option α) (af cs off q) (Option.rec (motive:=λ_=>Option α) none (λn=>aq (subL cs off n) λl=>q (.agg ⟨l⟩)) (Bz P t)) agg) (GW P t)
theorem au(t:TypeId)(cs:List Value)(off:Nat)(q:Value->Option α):ar P t cs off q=ob (part P t cs off) q:=by
 unfold ar part
 cases GW P t with
 |none=>rfl
 |some g=>
  cases g with
  |false=>exact QY _ _ _
  |true=>
   simp only;cases Bz P t with
   |none=>rfl
   |some n=>simp only[subL_eq];exact K0 _ _
def UA(t:TypeId)(f:Nat)(v:Value)(q:Value->Option α):Option α:=
 asAgg v (λcs=>Option.rec (motive:=λ_=>Option α) none (λp=>Prod.rec (motive:=λ_=>Option α) (λu o=>ar P u cs.toList o q) p) (xz P t f)) none
theorem YA(t:TypeId)(f:Nat)(v:Value)(q:Value->Option α):UA P t f v q=ob (NB P t f v) q:=by
 unfold UA NB xz
 cases v<;>try rfl
 rename_i cs
 show Option.rec (motive:=λ_=>Option α) none _ _=_
 cases P.underlying t with
 |none=>rfl
 |some d=>
  cases d<;>try rfl
  rename_i fields;simp only;cases fields.toList[f]? with
  |none=>rfl
  |some fd=>exact au _ _ _ _ _
def ks(et:TypeId)(ok:Bool)(q:Value->Option α):Option α:=
 Option.rec (motive:=λ_=>Option α) none (λz=>Bool.rec (motive:=λ_=>Option α) none (q (cond ok (.tuple #[z, .bool false]) z)) (EZ z)) (zeroOf P et)
def SK(kt et:TypeId)(k:Value)(ok:Bool)(es:List MapEntry)(q:Value->Option α):Option α:=
 Bool.rec (motive:=λ_=>Option α) none (Option.rec (motive:=λ_=>Option α) none (λr=>Option.rec (motive:=λ_=>Option α) (ks P et ok q) (λp=>Prod.rec (motive:=λ_=>Option α) (λ_ v=>Tl P et v λv=>q (cond ok (.tuple #[v, .bool true]) v)) p) r) (findD P K kt k es 0)) (En P 100 kt k)
def Q0(m:Mem)(t:TypeId)(x k:Value)(ok:Bool)(q:Value->Option α):Option α:=
 match P.underlying t with
 |some (.map kt et)=>match F4 m x with
  |some es=>SK P K kt et k ok es q
  |none=>none
 |_=>none
theorem UB(m:Mem)(t:TypeId)(x k:Value)(ok:Bool)(q:Value->Option α):Q0 P K m t x k ok q=ob (Ii P K m t x k ok) q:=by
 unfold Q0 Ii
 cases P.underlying t with
 |none=>rfl
 |some d=>
  cases d<;>try rfl
  rename_i kt et;simp only;cases F4 m x with
  |none=>rfl
  |some es=>
   simp only[SK];cases En P 100 kt k with
   |false=>rfl
   |true=>
    simp only[if_true];cases findD P K kt k es 0 with
    |none=>rfl
    |some r=>
     cases r with
     |some p=>
      obtain⟨i,v⟩:=p;simp only[IJ,T7];cases Zs P et v<;>rfl
     |none=>
      simp only[ks];cases zeroOf P et with
      |none=>rfl
      |some z=>
       simp only;cases EZ z<;>rfl
def ku(kt:TypeId)(m:Mem)(r:Nat)(k v:Value)(es:List MapEntry)(clock:Nat)(q:Mem->Option α):Option α:=
 Bool.rec (motive:=λ_=>Option α) none (Option.rec (motive:=λ_=>Option α) none (λx=>Option.rec (motive:=λ_=>Option α) (KX m r (.map true (es++ [{key:=k,val:=v,born:=clock}]) (clock+1)) q)
  (λp=>Prod.rec (motive:=λ_=>Option α) (λi _=>Option.rec (motive:=λ_=>Option α) none (λe=>Bool.rec (motive:=λ_=>Option α) none (KX m r (.map true (NC i k v es) clock) q) (Instr.sameBits 10000 e.key k)) es[i]?) p) x) (findD P K kt k es 0)) (En P 100 kt k)
def Ha(m:Mem)(t:TypeId)(x k v:Value)(q:Mem->Option α):Option α:=
 match P.underlying t with
 |some (.map kt _)=>match x with
  | .map (some r)=>match PN m r with
   | .map true es clock=>ku P K kt m r k v es clock q
   |_=>none
  |_=>none
 |_=>none
theorem JL(m:Mem)(t:TypeId)(x k v:Value)(q:Mem->Option α):Ha P K m t x k v q=ob (Cl P K m t x k v) q:=by
 unfold Ha Cl
 cases P.underlying t with
 |none=>rfl
 |some d=>
  cases d<;>try rfl
  rename_i kt et;simp only;cases x<;>try rfl
  rename_i r;cases r with
  |none=>rfl
  |some r=>
   simp only[KZ];cases m.get r with
   |none=>rfl
   |cells=>rfl
   |siter=>rfl
   |map o es clock=>
    cases o with
    |false=>rfl
    |true=>
     simp only[ku,KY];cases En P 100 kt k with
     |false=>rfl
     |true=>
      simp only[if_true];cases findD P K kt k es 0 with
      |none=>rfl
      |some x=>
       cases x with
       |none=>rfl
       |some p=>
        obtain⟨i,u⟩:=p;simp only;cases es[i]? with
        |none=>rfl
        |some e=>
         simp only;cases Instr.sameBits 10000 e.key k<;>rfl
end
end
end Go.DI.Y
namespace Go.DI
def maskAt(M:Tr Nat)(j:Nat):Nat:=match Tr.get M j j with|some x=>x|none=>0
def PK(acc:Tr Nat):List Edge->Nat
 | []=>0
 |e::l=>cond (Region.binds .any e) (2 ^ e.on|||(maskAt acc e.on|||PK acc l)) (PK acc l)
def iC:List Oper->Nat->Tr Nat->Tr Nat
 | [],_,acc=>acc
 |o::l,i,acc=>iC l (i+1) (Tr.put acc 8 i i (PK acc o.after.toList))
theorem SE{acc:Tr Nat}{L:List Nat}(h:∀j,maskAt acc j=L.getD j 0):∀es:List Edge,PK acc es=Hh L es
 | []=>rfl
 |e::es=>by simp only[PK,Hh,h,SE h es]
theorem Vc:∀(l:List Oper) (acc:Tr Nat) (L:List Nat),(∀j,maskAt acc j=L.getD j 0)->∀j,maskAt (iC l L.length acc) j=(Cz l L).getD j 0
 | [],_,_,h=>h
 |o::l,acc,L,h=>by
  intro j
  have:=Vc l (Tr.put acc 8 L.length L.length (PK acc o.after.toList)) (L++ [Hh L o.after.toList]) (by
   intro j;simp only[maskAt,Tr.get_put];by_cases hj:j=L.length
   ·subst hj;simp[SE h]
   ·have h2:=h j;simp only[maskAt]at h2;simp only[hj,if_false,h2,List.getD_eq_getElem?_getD];by_cases h3:j<L.length
    ·rw[List.getElem?_append_left h3]
    ·rw[List.getElem?_eq_none (by omega),List.getElem?_eq_none (by simp;omega)]) j
  simpa[iC,Cz]using this
def Xy(ops:List Oper):Tr Nat:=iC ops 0 .nil
theorem MR(ops:List Oper)(j:Nat):maskAt (Xy ops) j=(Cz ops []).getD j 0:=Vc ops .nil [] (λj=>by simp[maskAt,Tr.get_nil]) j
def JK(T:Tr (List Nat))(u:Nat):List Nat:=match Tr.get T u u with|some x=>x|none=> []
def PL:List Oper->Nat->Tr (List Nat)->Tr (List Nat)
 | [],_,T=>T
 |o::l,i,T=>match o.dst with
  |some d=>PL l (i+1) (Tr.put T 8 d d (i::JK T d))
  |none=>PL l (i+1) T
theorem LR(u k:Nat):∀(l:List Oper) (i:Nat) (T:Tr (List Nat)),k∈JK (PL l i T) u↔k∈JK T u\/(∃a o,k=i+a/\l[a]?=some o/\o.dst=some u)
 | [],i,T=>by simp[PL]
 |o::l,i,T=>by
  have step:(∃a o',k=i+a/\(o::l)[a]?=some o'/\o'.dst=some u)↔ (k=i/\o.dst=some u)\/(∃a o',k=i+1+a/\l[a]?=some o'/\o'.dst=some u):=by
   constructor
   ·rintro⟨a,o',h1,h2,h3⟩;cases a with
    |zero=>simp at h2;subst h2;exact .inl ⟨by omega,h3⟩
    |succ a=>exact .inr ⟨a,o',by omega,by simpa using h2,h3⟩
   ·rintro(⟨h1,h2⟩|⟨a,o',h1,h2,h3⟩)
    ·exact⟨0,o,by omega,by simp,h2⟩
    ·exact⟨a+1,o',by omega,by simpa using h2,h3⟩
  rw[step];simp only[PL];cases hd:o.dst with
  |none=>
   simp only;rw[LR u k l (i+1) T];simp
  |some d=>
   simp only;rw[LR u k l (i+1)]
   have:k∈JK (Tr.put T 8 d d (i::JK T d)) u↔k∈JK T u\/(k=i/\d=u):=by
    simp only[JK,Tr.get_put];by_cases h:u=d
    ·subst h;simp[or_comm]
    ·simp[h,Ne.symm h]
   rw[this];simp only[Option.some.injEq];exact or_assoc
def aX(ops:List Oper):Tr (List Nat):=PL ops 0 .nil
theorem PM(ops:List Oper)(u k:Nat):k∈JK (aX ops) u↔ ∃o,ops[k]?=some o/\o.dst=some u:=by
 have:=LR u k ops 0 .nil
 simp only[aX]
 rw[this]
 constructor
 ·rintro(h|⟨a,o,h1,h2,h3⟩)
  ·simp[JK,Tr.get_nil]at h
  ·exact⟨o,by simpa[h1]using h2,h3⟩
 ·rintro⟨o,h2,h3⟩;exact .inr ⟨k,o,by omega,h2,h3⟩
def iD(M:Tr Nat):List Oper->Nat->List (Nat×Nat)
 | [],_=> []
 |o::l,i=>cond (Nat.beq (Bd o.op) 2) ((i,maskAt M i)::iD M l (i+1)) (iD M l (i+1))
theorem QV(M:Tr Nat)(x:Nat×Nat):∀(l:List Oper) (i:Nat),x∈iD M l i↔ ∃a o,x.1=i+a/\l[a]?=some o/\Bd o.op=2/\x.2=maskAt M x.1
 | [],i=>by simp[iD]
 |o::l,i=>by
  have ih:=QV M x l (i+1)
  have step:(∃a o',x.1=i+a/\(o::l)[a]?=some o'/\Bd o'.op=2/\x.2=maskAt M x.1)↔ (x.1=i/\Bd o.op=2/\x.2=maskAt M x.1)\/(∃a o',x.1=i+1+a/\l[a]?=some o'/\Bd o'.op=2/\x.2=maskAt M x.1):=by
   constructor
   ·rintro⟨a,o',h1,h2,h3⟩;cases a with
    |zero=>simp at h2;subst h2;exact .inl ⟨by omega,h3⟩
    |succ a=>exact .inr ⟨a,o',by omega,by simpa using h2,h3⟩
   ·rintro(⟨h1,h2⟩|⟨a,o',h1,h2,h3⟩)
    ·exact⟨0,o,by omega,by simp,h2⟩
    ·exact⟨a+1,o',by omega,by simpa using h2,h3⟩
  rw[step,←ih];simp only[iD];by_cases hk:Bd o.op=2
  ·have:Nat.beq (Bd o.op) 2=true:=by rw[hk];rfl
   rw[this];simp only[cond_true,List.mem_cons,hk,true_and];constructor
   ·rintro(h|h)
    ·subst h;exact .inl ⟨rfl,rfl⟩
    ·exact .inr h
   ·rintro(⟨h1,h2⟩|h)
    ·left;ext
     ·exact h1
     ·rw[h2,h1]
    ·exact .inr h
  ·have:Nat.beq (Bd o.op) 2=false:=Jj hk;rw[this];simp[hk]
theorem Jk(M:Tr Nat):∀(l:List Oper) (i:Nat),(iD M l i).Pairwise λa b=>a.1<b.1
 | [],i=>by simp[iD]
 |o::l,i=>by
  have ih:=Jk M l (i+1);simp only[iD];cases Nat.beq (Bd o.op) 2 with
  |false=>exact ih
  |true=>
   simp only[cond_true,List.pairwise_cons];refine⟨λx hx=>?_,ih⟩;obtain⟨a,o',h1,_⟩:=(QV M x l (i+1)).1 hx;omega
def Qk(ops:List Oper):List (Nat×Nat):=iD (Xy ops) ops 0
theorem Fs(ops:List Oper)(x:Nat×Nat):x∈Qk ops↔BQ ops x.1=2/\x.1<ops.length/\x.2=(Cz ops []).getD x.1 0:=by
 rw[Qk,QV]
 simp only[Nat.zero_add,MR,BQ]
 constructor
 ·rintro⟨a,o,h1,h2,h3,h4⟩;subst h1;rw[h2];exact⟨h3,(List.getElem?_eq_some_iff.1 h2).1,h4⟩
 ·rintro⟨h1,h2,h3⟩;refine⟨x.1,ops[x.1],rfl,List.getElem?_eq_getElem h2,?_,h3⟩;rw[List.getElem?_eq_getElem h2]at h1;exact h1
def aY:List (Nat×Nat)->Bool
 | []=>true
 |x::l=>l.all (λb=>b.2.testBit x.1) && aY l
theorem SF:∀{l:List (Nat×Nat)},l.Pairwise (λa b=>a.1<b.1)->(aY l=true↔ ∀a∈l,∀b∈l,a.1<b.1->b.2.testBit a.1=true)
 | [],_=>by simp[aY]
 |x::l,hs=>by
  rw[List.pairwise_cons]at hs;have ih:=SF hs.2;simp only[aY,Bool.and_eq_true,List.all_eq_true,ih];constructor
  ·rintro⟨h1,h2⟩ a ha b hb hab;rcases List.mem_cons.1 ha with e|ha'
   ·subst e;rcases List.mem_cons.1 hb with e|hb'
    ·subst e;omega
    ·exact h1 b hb'
   ·rcases List.mem_cons.1 hb with e|hb'
    ·subst e;have:=hs.1 a ha';omega
    ·exact h2 a ha' b hb' hab
  ·intro h;exact⟨λb hb=>h x (List.mem_cons_self ..) b (List.mem_cons_of_mem _ hb) (hs.1 b hb),λa ha b hb=>h a (List.mem_cons_of_mem _ ha) b (List.mem_cons_of_mem _ hb)⟩
def iE(M:Tr Nat)(D:Tr (List Nat))(j Tj:Nat)(us:List Tmp):Bool:=
 us.all λu=>(JK D u).all λi=>Nat.beq i j||cond (Nat.blt i j) (Tj.testBit i) ((maskAt M i).testBit j)
def Nl(ops:List Oper)(M:Tr Nat)(D:Tr (List Nat)):List Oper->Nat->Bool
 | [],_=>true
 |o::l,j=>iE M D j (maskAt M j) (H0 ops o++o.dst.toList) && Nl ops M D l (j+1)
theorem Nm(ops:List Oper)(M:Tr Nat)(D:Tr (List Nat)):∀(l:List Oper) (j:Nat),Nl ops M D l j=true↔ ∀a o,l[a]?=some o->iE M D (j+a) (maskAt M (j+a)) (H0 ops o++o.dst.toList)=true
 | [],j=>by simp[Nl]
 |o::l,j=>by
  have ih:=Nm ops M D l (j+1);simp only[Nl,Bool.and_eq_true,ih];constructor
  ·rintro⟨h1,h2⟩ a o' h;cases a with
   |zero=>simp at h;subst h;exact h1
   |succ a=>
    have:=h2 a o' (by simpa using h);have e:j+1+a=j+(a+1):=by omega
    rwa [e]at this
  ·intro h;refine⟨h 0 o (by simp),λa o' ho=>?_⟩;have:=h (a+1) o' (by simpa using ho);have e:j+1+a=j+(a+1):=by omega
   rwa [e]
def Rg(ops:List Oper):Bool:=J8 ops 0 && (Nl ops (Xy ops) (aX ops) ops 0 && aY (Qk ops))
theorem Rh(ops:List Oper):Rg ops=Lg ops (Cz ops []):=by
 rw[Bool.eq_iff_iff]
 simp only[Rg,Lg,Bool.and_eq_true,Nm,SF (Jk _ _ _),Qk,List.all_eq_true,List.mem_range]
 have hv:=Fs ops
 simp only[Qk]at hv
 refine and_congr_right λ_=>?_
 constructor
 ·rintro⟨h1,h2⟩ i hi j hj;simp only[NF,List.getElem?_eq_getElem hi,List.getElem?_eq_getElem hj,Bool.and_eq_true];refine⟨?_,?_⟩
  ·cases hd:ops[i].dst with
   |none=>rfl
   |some d=>
    simp only[Bool.or_eq_true];by_cases hij:i=j
    ·subst hij;exact .inl (.inl (by simp))
    ·by_cases hu:((H0 ops ops[j]).contains d||ops[j].dst==some d)=true
     ·right
      have hmem:d∈H0 ops ops[j]++ops[j].dst.toList:=by
       simp only[Bool.or_eq_true,List.contains_iff_mem,beq_iff_eq]at hu;simp only[List.mem_append,Option.mem_toList];rcases hu with h|h
       ·exact .inl h
       ·exact .inr h
      have:=h1 j ops[j] (List.getElem?_eq_getElem hj);simp only[iE,List.all_eq_true,Nat.zero_add]at this;have:=this d hmem i ((PM ops d i).2 ⟨_,List.getElem?_eq_getElem hi,hd⟩);simp only[MR,Bool.or_eq_true]at this;rcases this with h|h
      ·exact absurd (Nat.eq_of_beq_eq_true h) hij
      ·exact h
     ·exact .inl (.inr (by simpa using hu))
  ·simp only[Bool.or_eq_true];by_cases hc:Bd ops[i].op=2/\Bd ops[j].op=2/\i<j
   ·right;have:=h2 (i,_) ((hv (i,(Cz ops []).getD i 0)).2 ⟨by simp only[BQ,List.getElem?_eq_getElem hi];exact hc.1,hi,rfl⟩) (j,_) ((hv (j,(Cz ops []).getD j 0)).2 ⟨by simp only[BQ,List.getElem?_eq_getElem hj];exact hc.2.1,hj,rfl⟩) hc.2.2;exact this
   ·left;simp only[Bool.not_eq_true'];cases hb:(Nat.beq (Bd ops[i].op) 2 && Nat.beq (Bd ops[j].op) 2 && Nat.blt i j)with
    |false=>rfl
    |true=>
     simp only[Bool.and_eq_true]at hb;exact absurd ⟨Nat.eq_of_beq_eq_true hb.1.1,Nat.eq_of_beq_eq_true hb.1.2,by simpa[Nat.blt_eq]using hb.2⟩ hc
 ·intro h;refine⟨λj y hy=>?_,?_⟩
  ·obtain⟨hj,rfl⟩:=List.getElem?_eq_some_iff.1 hy;simp only[iE,List.all_eq_true,Nat.zero_add];intro u hu i hi;obtain⟨x,hx,hd⟩:=(PM ops u i).1 hi;obtain⟨hi',rfl⟩:=List.getElem?_eq_some_iff.1 hx;have:=h i hi' j hj;simp only[NF,List.getElem?_eq_getElem hi',List.getElem?_eq_getElem hj,hd,Bool.and_eq_true]at this;have h1:=this.1;simp only[Bool.or_eq_true]at h1;simp only[MR,Bool.or_eq_true];rcases h1 with(h1|h1)|h1
   ·exact .inl h1
   ·exfalso;simp only[List.mem_append,Option.mem_toList]at hu
    have:((H0 ops ops[j]).contains u||ops[j].dst==some u)=true:=by
     simp only[Bool.or_eq_true,List.contains_iff_mem,beq_iff_eq];rcases hu with g|g
     ·exact .inl g
     ·exact .inr g
    rw[this]at h1;simp at h1
   ·exact .inr h1
  ·intro a ha b hb hab;obtain⟨a1,a2,a3⟩:=(hv a).1 ha;obtain⟨b1,b2,b3⟩:=(hv b).1 hb;have:=h a.1 a2 b.1 b2;simp only[NF,List.getElem?_eq_getElem a2,List.getElem?_eq_getElem b2,Bool.and_eq_true]at this;have h2:=this.2;simp only[BQ,List.getElem?_eq_getElem a2]at a1;simp only[BQ,List.getElem?_eq_getElem b2]at b1;rw[a1,b1]at h2;have hlt:Nat.blt a.1 b.1=true:=by simpa[Nat.blt_eq]using hab
   rw[hlt]at h2;simp only[Fe]at h2;rw[b3];simpa using h2
def GQ(p:Nat×Nat->Bool)(hs:List (Nat×Nat))(n:Nat):Nat:=match hs.find? p with|some h=>h.1|none=>n
theorem Nn{p:Nat×Nat->Bool}{hs:List (Nat×Nat)}{n s:Nat}(hp:hs.Pairwise λa b=>a.1<b.1)(hn:s<=n):s<=GQ p hs n↔ ∀h∈hs,h.1<s->p h=false:=by
 unfold GQ
 cases hf:hs.find? p with
 |none=>
  simp only[hn,true_iff];intro h hh _;have:=List.find?_eq_none.1 hf h hh;simpa using this
 |some x=>
  obtain⟨hx,l1,l2,rfl,h1⟩:=List.find?_eq_some_iff_append.1 hf;rw[List.pairwise_append]at hp;simp only;constructor
  ·intro hs' h hh hlt;rcases List.mem_append.1 hh with g|g
   ·have:=h1 h g;simpa using this
   ·rcases List.mem_cons.1 g with rfl|g
    ·omega
    ·have:=(List.pairwise_cons.1 hp.2.1).1 h g;omega
  ·intro h;by_cases hlt:x.1<s
   ·have:=h x (by simp) hlt;rw[this]at hx;simp at hx
   ·omega
def Jl(hs:List (Nat×Nat))(n i Ti:Nat):List (Nat×Nat):=
 (λf g=>(hs.map (·.1)++ [n]).filterMap λs=>cond (Nat.ble s f && (Nat.beq s n|| !(Ti.testBit s)) && !(Nat.ble i s && Nat.ble s g)) (some (i,s)) none)
  (GQ (λh=>h.2.testBit i) hs n) (GQ (λh=>Nat.ble i h.1) hs n)
def LS(M:Tr Nat)(hs:List (Nat×Nat))(n:Nat):List Oper->Nat->List (Nat×Nat)
 | [],_=> []
 |o::l,i=>cond (Nat.beq (Bd o.op) 0 && E1 o.op) (Jl hs n i (maskAt M i)++LS M hs n l (i+1)) (LS M hs n l (i+1))
def LI(ops:List Oper):List (Nat×Nat):=LS (Xy ops) (Qk ops) ops.length ops 0
def LU(hs:List (Nat×Nat)):List Oper->Nat->List (Nat×Nat)
 | [],_=> []
 |o::l,i=>cond (Nat.beq (Bd o.op) 1) ((hs.filterMap λh=>cond (Nat.blt i h.1 && !(h.2.testBit i)) (some (i,h.1)) none)++LU hs l (i+1)) (LU hs l (i+1))
def Jc(ops:List Oper):List (Nat×Nat):=LU (Qk ops) ops 0
theorem No(M:Tr Nat)(hs:List (Nat×Nat))(n:Nat)(x:Nat×Nat):∀(l:List Oper) (i:Nat),x∈LS M hs n l i↔ ∃a o,l[a]?=some o/\Bd o.op=0/\E1 o.op=true/\x∈Jl hs n (i+a) (maskAt M (i+a))
 | [],i=>by simp[LS]
 |o::l,i=>by
  have ih:=No M hs n x l (i+1)
  have step:(∃a o',(o::l)[a]?=some o'/\Bd o'.op=0/\E1 o'.op=true/\x∈Jl hs n (i+a) (maskAt M (i+a)))↔ (Bd o.op=0/\E1 o.op=true/\x∈Jl hs n i (maskAt M i))\/(∃a o',l[a]?=some o'/\Bd o'.op=0/\E1 o'.op=true/\x∈Jl hs n (i+1+a) (maskAt M (i+1+a))):=by
   constructor
   ·rintro⟨a,o',h2,h3⟩;cases a with
    |zero=>simp at h2;subst h2;exact .inl h3
    |succ a=>
     have e:i+(a+1)=i+1+a:=by omega
     rw[e]at h3;exact .inr ⟨a,o',by simpa using h2,h3⟩
   ·rintro(h|⟨a,o',h2,h3⟩)
    ·exact⟨0,o,by simp,h⟩
    ·have e:i+1+a=i+(a+1):=by omega
     rw[e]at h3;exact⟨a+1,o',by simpa using h2,h3⟩
  rw[step,←ih];simp only[LS];by_cases hk:Bd o.op=0/\E1 o.op=true
  ·have:(Nat.beq (Bd o.op) 0 && E1 o.op)=true:=by rw[hk.1,hk.2];rfl
   rw[this];simp[hk.1,hk.2]
  ·have:(Nat.beq (Bd o.op) 0 && E1 o.op)=false:=by
    cases hb:(Nat.beq (Bd o.op) 0 && E1 o.op)with
    |false=>rfl
    |true=>
     simp only[Bool.and_eq_true]at hb;exact absurd ⟨Nat.eq_of_beq_eq_true hb.1,hb.2⟩ hk
   rw[this];simp only[cond_false];constructor
   ·exact .inr
   ·rintro(⟨h1,h2,_⟩|h)
    ·exact absurd ⟨h1,h2⟩ hk
    ·exact h
theorem Np(hs:List (Nat×Nat))(x:Nat×Nat):∀(l:List Oper) (i:Nat),x∈LU hs l i↔ ∃a o,l[a]?=some o/\Bd o.op=1/\x.1=i+a/\∃h∈hs,i+a<h.1/\h.2.testBit (i+a)=false/\x.2=h.1
 | [],i=>by simp[LU]
 |o::l,i=>by
  have ih:=Np hs x l (i+1)
  have step:(∃a o',(o::l)[a]?=some o'/\Bd o'.op=1/\x.1=i+a/\∃h∈hs,i+a<h.1/\h.2.testBit (i+a)=false/\x.2=h.1)↔ (Bd o.op=1/\x.1=i/\∃h∈hs,i<h.1/\h.2.testBit i=false/\x.2=h.1)\/(∃a o',l[a]?=some o'/\Bd o'.op=1/\x.1=i+1+a/\∃h∈hs,i+1+a<h.1/\h.2.testBit (i+1+a)=false/\x.2=h.1):=by
   constructor
   ·rintro⟨a,o',h2,h3⟩;cases a with
    |zero=>simp at h2;subst h2;exact .inl h3
    |succ a=>
     have e:i+(a+1)=i+1+a:=by omega
     rw[e]at h3;exact .inr ⟨a,o',by simpa using h2,h3⟩
   ·rintro(h|⟨a,o',h2,h3⟩)
    ·exact⟨0,o,by simp,h⟩
    ·have e:i+1+a=i+(a+1):=by omega
     rw[e]at h3;exact⟨a+1,o',by simpa using h2,h3⟩
  rw[step,←ih];simp only[LU];by_cases hk:Bd o.op=1
  ·have:Nat.beq (Bd o.op) 1=true:=by rw[hk];rfl
   rw[this];simp only[cond_true,List.mem_append,List.mem_filterMap,hk,true_and];refine or_congr_left ?_;constructor
   ·rintro⟨h,hh,hc⟩;cases hb:(Nat.blt i h.1 && !(h.2.testBit i))with
    |false=>rw[hb]at hc;simp at hc
    |true=>
     rw[hb]at hc;simp only[cond_true,Option.some.injEq]at hc;subst hc;simp only[Bool.and_eq_true,Bool.not_eq_true']at hb;exact⟨rfl,h,hh,by simpa[Nat.blt_eq]using hb.1,hb.2,rfl⟩
   ·rintro⟨h1,h,hh,h2,h3,h4⟩;refine⟨h,hh,?_⟩;have:Nat.blt i h.1=true:=by simpa[Nat.blt_eq]using h2
    rw[this,h3];simp only[Bool.not_false,Bool.and_true,cond_true,Option.some.injEq];ext
    ·exact h1.symm
    ·exact h4.symm
  ·have:Nat.beq (Bd o.op) 1=false:=Jj hk;rw[this];simp[hk]
theorem NW(ops:List Oper)(x:Nat×Nat):x∈Jc ops↔x∈NH ops (Cz ops []):=by
 rw[Jc,Np]
 simp only[NH,List.mem_flatMap,List.mem_range,Nat.zero_add]
 constructor
 ·rintro⟨i,o,ho,hk,h1,h,hh,h2,h3,h4⟩;obtain⟨hi,rfl⟩:=List.getElem?_eq_some_iff.1 ho;obtain⟨g1,g2,g3⟩:=(Fs ops h).1 hh;refine⟨i,hi,?_⟩;have e1:BQ ops i=1:=by simp only[BQ,ho];exact hk
  rw[e1];simp only[show Nat.beq 1 1=true from rfl,cond_true,List.mem_filterMap,List.mem_range];refine⟨h.1,g2,?_⟩;have e2:Nat.blt i h.1=true:=by simpa[Nat.blt_eq]using h2
  have e3:Fe (Cz ops []) i h.1=false:=by simp only[Fe,←g3];exact h3
  rw[e2,g1,e3];simp only[show Nat.beq 2 2=true from rfl,Bool.and_true,Bool.not_false,cond_true,Option.some.injEq];ext
  ·exact h1.symm
  ·exact h4.symm
 ·rintro⟨i,hi,hx⟩;cases hk:Nat.beq (BQ ops i) 1 with
  |false=>rw[hk]at hx;simp at hx
  |true=>
   rw[hk]at hx;simp only[cond_true,List.mem_filterMap,List.mem_range]at hx;obtain⟨h,hh,hc⟩:=hx;cases hb:(Nat.blt i h && Nat.beq (BQ ops h) 2 && !(Fe (Cz ops []) i h))with
   |false=>rw[hb]at hc;simp at hc
   |true=>
    rw[hb]at hc;simp only[cond_true,Option.some.injEq]at hc;subst hc;simp only[Bool.and_eq_true,Bool.not_eq_true']at hb;have hk':=Nat.eq_of_beq_eq_true hk;simp only[BQ,List.getElem?_eq_getElem hi]at hk';refine⟨i,ops[i],List.getElem?_eq_getElem hi,hk',rfl,(h,(Cz ops []).getD h 0),(Fs ops _).2 ⟨Nat.eq_of_beq_eq_true hb.1.2,hh,rfl⟩,by simpa[Nat.blt_eq]using hb.1.1,?_,rfl⟩;have:=hb.2;simpa[Fe]using this
theorem NV(ops:List Oper)(x:Nat×Nat):x∈LI ops↔x∈NG ops (Cz ops []):=by
 rw[LI,No]
 have hsort:(Qk ops).Pairwise (λa b=>a.1<b.1):=Jk _ _ _
 have hmem:∀s,s∈(Qk ops).map (·.1)↔BQ ops s=2/\s<ops.length:=by
  intro s;simp only[List.mem_map];constructor
  ·rintro⟨h,hh,rfl⟩;obtain⟨g1,g2,g3⟩:=(Fs ops h).1 hh;exact⟨g1,g2⟩
  ·rintro⟨g1,g2⟩;exact⟨(s,_),(Fs ops (s,(Cz ops []).getD s 0)).2 ⟨g1,g2,rfl⟩,rfl⟩
 have hfe:∀i s,s<=ops.length->(s<=GQ (λh=>h.2.testBit i) (Qk ops) ops.length↔ ((List.range s).all λh=> !(Nat.beq (BQ ops h) 2)|| !(Fe (Cz ops []) i h))=true):=by
  intro i s hs;rw[Nn hsort hs];simp only[List.all_eq_true,List.mem_range,Bool.or_eq_true,Bool.not_eq_true'];constructor
  ·intro h q hq;by_cases hk:BQ ops q=2
   ·right;have:=h (q,_) ((Fs ops (q,(Cz ops []).getD q 0)).2 ⟨hk,by omega,rfl⟩) hq;exact this
   ·exact .inl (Jj hk)
  ·intro h q hq hlt;obtain⟨g1,g2,g3⟩:=(Fs ops q).1 hq;rcases h q.1 hlt with g|g
   ·rw[g1]at g;simp at g
   ·rw[g3];exact g
 have hne:∀i s,s<=ops.length->(s<=GQ (λh=>Nat.ble i h.1) (Qk ops) ops.length↔ ((List.range s).all λh=> !(Nat.beq (BQ ops h) 2)||Nat.blt h i)=true):=by
  intro i s hs;rw[Nn hsort hs];simp only[List.all_eq_true,List.mem_range,Bool.or_eq_true,Bool.not_eq_true'];constructor
  ·intro h q hq;by_cases hk:BQ ops q=2
   ·right;have:=h (q,_) ((Fs ops (q,(Cz ops []).getD q 0)).2 ⟨hk,by omega,rfl⟩) hq;simp only at this
    have h2:¬(i<=q):=λhle=>by
     have hb:Nat.ble i q=true:=by rw[Nat.ble_eq];exact hle
     rw[hb]at this;simp at this
    simp only[Nat.blt_eq];omega
   ·exact .inl (Jj hk)
  ·intro h q hq hlt;obtain⟨g1,g2,g3⟩:=(Fs ops q).1 hq;rcases h q.1 hlt with g|g
   ·rw[g1]at g;simp at g
   ·have h3:q.1<i:=by simpa[Nat.blt_eq]using g
    cases hb:Nat.ble i q.1 with
    |false=>rfl
    |true=>have:=Nat.le_of_ble_eq_true hb;omega
 have core:∀i s,s<=ops.length->(((Nat.ble s (GQ (λh=>h.2.testBit i) (Qk ops) ops.length) && (Nat.beq s ops.length|| !((maskAt (Xy ops) i).testBit s)) && !(Nat.ble i s && Nat.ble s (GQ (λh=>Nat.ble i h.1) (Qk ops) ops.length)))=true/\(s∈(Qk ops).map (·.1)\/s=ops.length))↔ ((Ot ops (Cz ops []) i s && !(Ou ops i s))=true)):=by
  intro i s hs;have e1:=hfe i s hs;have e2:=hne i s hs;simp only[Bool.and_eq_true,Nat.ble_eq,e1,Bool.not_eq_true',Bool.or_eq_true,Ot,Ou,MR,Fe]at e1 e2 ⊢
  have e3:(Nat.ble i s && Nat.ble s (GQ (λh=>Nat.ble i h.1) (Qk ops) ops.length))=(Nat.ble i s && (List.range s).all λh=> !(Nat.beq (BQ ops h) 2)||Nat.blt h i):=by
   congr 1;rw[Bool.eq_iff_iff,Nat.ble_eq];exact e2
  rw[e3,hmem];constructor
  ·rintro⟨⟨⟨h1,h2⟩,h3⟩,h4⟩;refine⟨⟨?_,h1⟩,h3⟩;rcases h4 with h4|h4
   ·rcases h2 with h2|h2
    ·exact .inl h2
    ·exact .inr ⟨by rw[h4.1];rfl,h2⟩
   ·left;rw[h4];exact Nat.beq_refl _
  ·rintro⟨⟨h0,h1⟩,h3⟩;rcases h0 with h0|⟨h0,h2⟩
   ·exact⟨⟨⟨h1, .inl h0⟩,h3⟩, .inr (Nat.eq_of_beq_eq_true h0)⟩
   ·by_cases hlt:s<ops.length
    ·exact⟨⟨⟨h1, .inr h2⟩,h3⟩, .inl ⟨Nat.eq_of_beq_eq_true h0,hlt⟩⟩
    ·have:s=ops.length:=by omega
     exact⟨⟨⟨h1, .inr h2⟩,h3⟩, .inr this⟩
 simp only[NG,List.mem_flatMap,List.mem_range,Nat.zero_add]
 constructor
 ·rintro⟨i,o,ho,hk,hr,hx⟩;obtain⟨hi,rfl⟩:=List.getElem?_eq_some_iff.1 ho;refine⟨i,hi,?_⟩;rw[ho];simp only[hk,hr,show Nat.beq 0 0=true from rfl,Bool.and_true,cond_true,List.mem_filterMap,List.mem_range];simp only[Jl,List.mem_filterMap]at hx;obtain⟨s,hs,hc⟩:=hx;cases hb:(Nat.ble s (GQ (λh=>h.2.testBit i) (Qk ops) ops.length) && (Nat.beq s ops.length|| !((maskAt (Xy ops) i).testBit s)) && !(Nat.ble i s && Nat.ble s (GQ (λh=>Nat.ble i h.1) (Qk ops) ops.length)))with
  |false=>rw[hb]at hc;simp at hc
  |true=>
   rw[hb]at hc;have hs':s∈(Qk ops).map (·.1)\/s=ops.length:=by simpa using hs
   have hle:s<=ops.length:=by
    rcases hs' with g|g
    ·have:=(hmem s).1 g;omega
    ·omega
   refine⟨s,by omega,?_⟩;rw[(core i s hle).1 ⟨hb,hs'⟩];exact hc
 ·rintro⟨i,hi,hx⟩;rw[List.getElem?_eq_getElem hi]at hx;simp only at hx;cases hk:(Nat.beq (Bd ops[i].op) 0 && E1 ops[i].op)with
  |false=>rw[hk]at hx;simp at hx
  |true=>
   rw[hk]at hx;simp only[cond_true,List.mem_filterMap,List.mem_range]at hx;obtain⟨s,hs,hc⟩:=hx;simp only[Bool.and_eq_true]at hk;refine⟨i,ops[i],List.getElem?_eq_getElem hi,Nat.eq_of_beq_eq_true hk.1,hk.2,?_⟩;cases hb:(Ot ops (Cz ops []) i s && !(Ou ops i s))with
   |false=>rw[hb]at hc;simp at hc
   |true=>
    rw[hb]at hc;obtain⟨g1,g2⟩:=(core i s (by omega)).2 hb;simp only[Jl,List.mem_filterMap];refine⟨s,by simpa using g2,?_⟩;rw[g1];exact hc
theorem FX{α:Type}{l l':List α}(h:∀x,x∈l↔x∈l')(p:α->Bool):l.all p=l'.all p:=by
 rw[Bool.eq_iff_iff]
 simp only[List.all_eq_true,h]
end Go.DI
namespace Go.DI.Y
noncomputable section
variable{α:Type}
abbrev CF(α:Type):=FuncId->List Value->Mem->(Value->Mem->Option α)->Option α
abbrev nm(α:Type):=Program->(TypeId->Bool)->Nat->CF α->AF->Mem->(Value->Mem->Option α)->Option α
abbrev DF:=FuncId->List Value->Mem->Option (Value×Mem)
theorem oD{r:Option Value}{m:Mem}{q:Value->Mem->Option α}:Ev (match r with|some v=>some (v,m)|none=>none) q=ob r λv=>q v m:=by cases r<;>rfl
def iM(r:Option (BI×Made))(m:Mem)(q:Value->Mem->Option α):Option α:=
 Option.rec (motive:=λ_=>Option α) none (λp=>Prod.rec (motive:=λ_=>Option α) (λx k=>
  (λlay:BI->Option α=>BI.rec (motive:=λ_=>Option α) (lay .none) (λo c=>aq c λc=>lay (.cells o c)) (λo es c=>lay (.map o es c)) (λs p=>lay (.siter s p)) x)
   λx=>OR m.size λz=>QX m x λm'=>q (k.val z) m') p) r
theorem iN(r:Option (BI×Made))(m:Mem)(q:Value->Mem->Option α):iM r m q=Ev (match r with|some (x,k)=>some (k.val m.size,m.push x)|none=>none) q:=by
 cases r with
 |none=>rfl
 |some p=>
  obtain⟨x,k⟩:=p;show(BI.rec (motive:=λ_=>Option α) _ _ _ _ x:Option α)=_;simp only[K0,H7,Iy];cases x<;>rfl
def wW(v:Value)(q:Value->Option α):Option α:=
 match v with
 | .pointer (some a)=>q (.pointer (some a))
 | .func (.func f) a b=>q (.func (.func f) a b)
 |_=>none
section
variable(P:Program)
def Q1(m:Mem)(b off:Nat)(vs:List Value)(q:Mem->Option α):Option α:=
 cellsOf (PN m b) λo c=>Bool.rec (motive:=λ_=>Option α) none (MT c off vs λc'=>KX m b (.cells true c') q) o
theorem UC(m:Mem)(b off:Nat)(vs:List Value)(q:Mem->Option α):Q1 m b off vs q=ob (EX m b off vs) q:=by
 simp only[Q1,EX,H9,KZ]
 cases m.get b<;>try rfl
 rename_i o c
 cases o with
 |false=>rfl
 |true=>
  simp only[H8,KY];split
  ·split<;>rfl
  ·rfl
def Vl(sp:Option Nat)(m:Mem)(b off:Nat)(vs:List Value)(q:Mem->Option α):Option α:=match sp with|none=>Q1 m b off vs q|some _=>none
theorem UD(sp:Option Nat)(m:Mem)(b off:Nat)(vs:List Value)(q:Mem->Option α):Vl sp m b off vs q=ob (Ky sp m b off vs) q:=by
 cases sp with
 |none=>exact UC _ _ _ _ _
 |some _=>rfl
def appendF(m:Mem)(tS tX:TypeId)(s x:Value)(k:Value->Mem->Option α):Option α:=
 match P.underlying tS,P.underlying tX with
 |_,some (.int _)|_,none=>none
 |some (.slice e),some _=>match s,Bz P e,bytesOf P e,lenOf x with
  | .slice base sLen sCap,some size,some bytes,some n=>
   if size=0 then none else
   match Ca m size n x with
   |some new=>
    if sLen+n<=sCap then
     (match base with
     |none=>if n=0 then k (.slice none (sLen+n) sCap) m else none
     |some ⟨b,off,sp⟩=>if n=0 then k (.slice (some ⟨b,off,sp⟩) (sLen+n) sCap) m else
      Vl sp m b (off+sLen*size) new λm'=>OR (sLen+n) λq=>k (.slice (some ⟨b,off,sp⟩) q sCap) m')
    else if(sLen+n)*bytes<=140737488355328/\(sLen+n:Nat)<=4611686018427387904/\0<bytes/\(Df P e 1).isSome=true then
     match Ca m size sLen s with
     |some old=>
      if(new.all one && old.all one)=true/\old.length=sLen*size/\new.length=n*size then
      (match base with
      |some ⟨b,_,some e'⟩=>if e'=size then
        (match m.get b with
        | .cells true _=>aq (old++new) λl=>OR m.size λz=>OR (sLen+n) λq=>QX m (.cells true l) λm'=>KX m' b .none λm'=>k (.slice (some ⟨z,0,some size⟩) q q) m'
        |_=>none)
       else none
      |_=>aq (old++new) λl=>OR m.size λz=>OR (sLen+n) λq=>QX m (.cells true l) λm'=>k (.slice (some ⟨z,0,some size⟩) q q) m')else none
     |none=>none
    else none
   |none=>none
  |_,_,_,_=>none
 |_,_=>none
theorem appendF_eq(m:Mem)(tS tX:TypeId)(s x:Value)(k:Value->Mem->Option α):appendF P m tS tX s x k=Ev (Bi P m tS tX s x) k:=by
 unfold appendF Bi
 cases P.underlying tX with
 |none=>cases P.underlying tS<;>rfl
 |some dX=>
  cases P.underlying tS with
  |none=>cases dX<;>rfl
  |some dS=>
   cases dS<;>cases dX<;>try rfl
   all_goals
    simp only;cases s<;>try rfl
    cases Bz P _<;>try rfl
    cases bytesOf P _<;>try rfl
    cases lenOf x<;>try rfl
    simp only;rename_i base sLen sCap size bytes n;by_cases h0:size=0
    ·simp only[h0,if_true];rfl
    ·simp only[h0,if_false];cases Ca m size n x with
     |none=>rfl
     |some new=>
      simp only;by_cases h1:sLen+n<=sCap
      ·simp only[h1,if_true];cases base with
       |none=>by_cases h2:n=0<;>simp only[h2,if_true,if_false] <;>rfl
       |some ad=>
        obtain⟨b,off,sp⟩:=ad;simp only;by_cases h2:n=0
        ·simp only[h2,if_true];rfl
        ·simp only[h2,if_false,UD];cases Ky sp m b (off+sLen*size) new<;>simp only[ob_some,Vd,Ev,H7]
      ·simp only[h1,if_false];rw[iF];refine aZ λh2=>?_;cases Ca m size sLen _ with
       |none=>rfl
       |some old=>
         simp only;by_cases h3:(new.all one && old.all one)=true/\old.length=sLen*size/\new.length=n*size
         ·rw[if_pos h3,if_pos h3];cases base with
          |none=>simp only[K0,Iy,H7,Ev]
          |some ad=>
           obtain⟨b,off,sp⟩:=ad;cases sp with
           |none=>simp only[K0,Iy,H7,Ev]
           |some e'=>
            simp only;by_cases h4:e'=size
            ·simp only[h4,if_true];cases m.get b with
             |none=>rfl
             |map=>rfl
             |siter=>rfl
             |cells o c=>cases o with
              |false=>rfl
              |true=>simp only[K0,Iy,KY,H7,Ev]
            ·simp only[h4,if_false];rfl
         ·rw[if_neg h3,if_neg h3];rfl
end
def aw(c:Call):nm α:=
 Call.rec (motive:=λ_=>nm α) (λcallee args tys=>Callee.rec (motive:=λ_=>nm α)
  (λf P K G cf t m q=>evF f G t λv=>QL v λg fs cs=>Xo args.toList G t λvs=>QM vs cs λr=>QM fs r λl=>cf g l m q)
  (λr s P K G cf t m q=>Ev (Dr P K G (λ_ _ _=>none) t m (.call ⟨.invoke r s,args,tys⟩)) q)
  (λb P K G cf t m q=>match b with
   | .len=>(match args.toList,tys.toList with
    | [x],[ty]=>evF x G t λv=>iK (Xf P m ty v) λv=>q v m
    |_,_=>none)
   | .append=>(match args.toList,tys.toList with
    | [s,x],[tS,tX]=>evF s G t λs=>evF x G t λx=>appendF P m tS tX s x q
    |_,_=>none)
   |b=>Ev (Dr P K G (λ_ _ _=>none) t m (.call ⟨.builtin b,args,tys⟩)) q) callee) c
def opF(o:Op):nm α:=
 Op.rec (motive:=λ_=>nm α)
  (λx P K G cf t mm q=>evF x G t λv=>q v mm)
  (λx P K G cf t mm q=>evF x G t λv=>q v mm)
  (λc a b P K G cf t mm q=>evF c G t λv=>asBool v (evF a G t λv=>q v mm) (evF b G t λv=>q v mm))
  (λe P K G cf t mm q=>iM (Eo P G t (.alloc e)) mm q)
  (λe x P K G cf t mm q=>iM (Eo P G t (.box e x)) mm q)
  (λty ps P K G cf t mm q=>Ev (Dr P K G (λ_ _ _=>none) t mm (.build ty ps)) q)
  (λty n ps P K G cf t mm q=>Ev (Dr P K G (λ_ _ _=>none) t mm (.buildSlice ty n ps)) q)
  (λmt m k v P K G cf t mm q=>evF m G t λx=>evF k G t λk=>evF v G t λv=>Ha P K mm mt x k v λm=>q undef m)
  (λty a P K G cf t mm q=>evF a G t λv=>Lk P mm ty v λv=>Tl P ty v λv=>q v mm)
  (λty a x P K G cf t mm q=>evF a G t λa=>evF x G t λv=>storeF P mm ty v a λm=>q undef m)
  (λg P K G cf t mm q=>Ev (Dr P K G (λ_ _ _=>none) t mm (.ready g)) q)
  (λg P K G cf t mm q=>Ev (Dr P K G (λ_ _ _=>none) t mm (.waits g)) q)
  (λx P K G cf t mm q=>evF x G t λv=>wW v (λv=>q v mm))
  (λop ty x y yt P K G cf t mm q=>evF x G t λx=>evF y G t λy=>oA P K op ty x y λv=>q v mm)
  (λop ty x P K G cf t mm q=>evF x G t λx=>iK (qm op x) λv=>q v mm)
  (λa b x P K G cf t mm q=>Ev (Dr P K G (λ_ _ _=>none) t mm (.convert a b x)) q)
  (λd x P K G cf t mm q=>Ev (Dr P K G (λ_ _ _=>none) t mm (.sliceToArrayPointer d x)) q)
  (λty x P K G cf t mm q=>Ev (Dr P K G (λ_ _ _=>none) t mm (.makeInterface ty x)) q)
  (λfn a b P K G cf t mm q=>Ev (Dr P K G (λ_ _ _=>none) t mm (.makeFunc fn a b)) q)
  (λty r P K G cf t mm q=>Ev (Dr P K G (λ_ _ _=>none) t mm (.makeMap ty r)) q)
  (λty s P K G cf t mm q=>Ev (Dr P K G (λ_ _ _=>none) t mm (.makeChan ty s)) q)
  (λty l c P K G cf t mm q=>Ev (Dr P K G (λ_ _ _=>none) t mm (.makeSlice ty l c)) q)
  (λty x l h mx P K G cf t mm q=>Ev (Dr P K G (λ_ _ _=>none) t mm (.slice ty x l h mx)) q)
  (λs x f P K G cf t mm q=>evF x G t λv=>Jm P s f v λv=>q v mm)
  (λs x f P K G cf t mm q=>evF x G t λv=>UA P s f v λv=>q v mm)
  (λty x i P K G cf t mm q=>evF x G t λx=>evF i G t λi=>Jn P ty x i λv=>q v mm)
  (λty x i P K G cf t mm q=>Ev (Dr P K G (λ_ _ _=>none) t mm (.index ty x i)) q)
  (λty x k ok P K G cf t mm q=>evF x G t λx=>evF k G t λk=>Q0 P K mm ty x k ok λv=>q v mm)
  (λmt m k v P K G cf t mm q=>evF m G t λx=>evF k G t λk=>evF v G t λv=>Ha P K mm mt x k v λm=>q undef m)
  (λmt m k P K G cf t mm q=>Ev (Dr P K G (λ_ _ _=>none) t mm (.mapEntry mt m k)) q)
  (λmt m s v P K G cf t mm q=>Ev (Dr P K G (λ_ _ _=>none) t mm (.entryStore mt m s v)) q)
  (λty x P K G cf t mm q=>Ev (Dr P K G (λ_ _ _=>none) t mm (.range ty x)) q)
  (λi s P K G cf t mm q=>Ev (Dr P K G (λ_ _ _=>none) t mm (.next i s)) q)
  (λi P K G cf t mm q=>Ev (Dr P K G (λ_ _ _=>none) t mm (.entry i)) q)
  (λx a b ok P K G cf t mm q=>Ev (Dr P K G (λ_ _ _=>none) t mm (.typeAssert x a b ok)) q)
  (λx i P K G cf t mm q=>evF x G t λv=>asTup v λvs=>af vs.toList i λv=>q v mm)
  (λc P K G cf t mm q=>aw c P K G cf t mm q)
  (λc P K G cf t mm q=>Ev (Dr P K G (λ_ _ _=>none) t mm (.go c)) q)
  (λc P K G cf t mm q=>Ev (Dr P K G (λ_ _ _=>none) t mm (.defer c)) q)
  (λx P K G cf t mm q=>Ev (Dr P K G (λ_ _ _=>none) t mm (.panic x)) q)
  (λc x P K G cf t mm q=>Ev (Dr P K G (λ_ _ _=>none) t mm (.send c x)) q)
  (λct c ok P K G cf t mm q=>Ev (Dr P K G (λ_ _ _=>none) t mm (.recv ct c ok)) q)
  (λcs b P K G cf t mm q=>Ev (Dr P K G (λ_ _ _=>none) t mm (.select cs b)) q)
  o
section
variable{P:Program}{K:TypeId->Bool}{G:Nat}{cf:CF α}{df:DF}{t:AF}{m:Mem}{q:Value->Mem->Option α}
theorem D5{o:Op}(h:Bd o=0):Ev (Dr P K G df t m o) q=ob (BV P K G t m o) λv=>q v m:=by
 simp only[Dr,h];exact oD
theorem SL{o:Op}(h:Bd o=1):Ev (Dr P K G df t m o) q=iM (Eo P G t o) m q:=by
 simp only[Dr,h,iN]
 cases Eo P G t o<;>rfl
theorem IT{o:Op}(h:Bd o=2):Ev (Dr P K G df t m o) q=Ev (Cv P K G df t m o) q:=by
 simp only[Dr,h]
theorem YB(hcf:∀f a m (q:Value->Mem->Option α),cf f a m q=Ev (df f a m) q)(c:Call):aw c P K G cf t m q=Ev (Dr P K G df t m (.call c)) q:=by
 obtain⟨callee,args,tys⟩:=c
 cases callee with
 |invoke r s=>
  rfl
 |value f=>
  rw[IT rfl];show(evF f G t λv=>QL v λg fs cs=>Xo args.toList G t λvs=>QM vs cs λr=>QM fs r λl=>cf g l m q)=_;simp only[B7,QN,QO,Cv];cases ev G t f with
  |none=>rfl
  |some v=>
   simp only[ob_some];cases v<;>try rfl
   rename_i fn a b;cases fn<;>try rfl
   show ob (evs G t args.toList) _=_;simp only[hcf];cases evs G t args.toList<;>rfl
 |builtin b=>
  cases b<;>try rfl
  ·rw[IT rfl];show(match args.toList,tys.toList with| [s,x],[tS,tX]=>evF s G t λs=>evF x G t λx=>appendF P m tS tX s x q|_,_=>none)=_;simp only[Cv];generalize args.toList=A;generalize tys.toList=T;rcases A with _|⟨s,_|⟨x,_|⟨y,A⟩⟩⟩<;>rcases T with _|⟨tS,_|⟨tX,_|⟨c,T⟩⟩⟩<;>try rfl
   simp only[B7];cases ev G t s with
   |none=>rfl
   |some s=>
    simp only[ob_some];cases ev G t x with
    |none=>rfl
    |some x=>exact appendF_eq _ _ _ _ _ _ _
  ·rw[D5 rfl];show(match args.toList,tys.toList with| [x],[ty]=>evF x G t λv=>iK (Xf P m ty v) λv=>q v m|_,_=>none)=_;simp only[BV];generalize args.toList=A;generalize tys.toList=T;rcases A with _|⟨x,_|⟨y,A⟩⟩<;>rcases T with _|⟨ty,_|⟨c,T⟩⟩<;>try rfl
   simp only[B7,Vj];cases ev G t x<;>rfl
theorem Tk(hcf:∀f a m (q:Value->Mem->Option α),cf f a m q=Ev (df f a m) q)(o:Op):opF o P K G cf t m q=Ev (Dr P K G df t m o) q:=by
 cases o<;>try rfl
 case move x=>rw[D5 rfl];exact B7 _ _ _ _
 case assign x=>rw[D5 rfl];exact B7 _ _ _ _
 case pick c a b=>
  rw[D5 rfl];refine(B7 _ _ _ _).trans ?_;simp only[BV];cases ev G t c with
  |none=>rfl
  |some v=>
   simp only[ob_some];cases v<;>try rfl
   rename_i b';cases b'
   ·exact B7 _ _ _ _
   ·exact B7 _ _ _ _
 case alloc e=>rw[SL rfl];rfl
 case box e x=>rw[SL rfl];rfl
 case load ty a=>
  rw[D5 rfl];refine(B7 _ _ _ _).trans ?_;simp only[BV];cases ev G t a with
  |none=>rfl
  |some v=>
   simp only[ob_some,KR,IJ];cases EF P m ty v with
   |none=>rfl
   |some u=>rfl
 case store ty a x=>
  rw[IT rfl];refine(B7 _ _ _ _).trans ?_;simp only[Cv];cases ev G t a with
  |none=>rfl
  |some a=>
   simp only[ob_some];refine(B7 _ _ _ _).trans ?_;cases ev G t x with
   |none=>rfl
   |some x=>
    simp only[ob_some];refine(storeF_eq _ _ _ _ _ _).trans ?_;cases Bx P m ty x a<;>rfl
 case nilCheck x=>
  rw[D5 rfl];refine(B7 _ _ _ _).trans ?_;simp only[BV];cases ev G t x with
  |none=>rfl
  |some v=>
   simp only[ob_some];cases v<;>try rfl
   ·rename_i a;cases a<;>rfl
   ·rename_i fn _ _;cases fn<;>rfl
 case binOp op ty x y yt=>
  rw[D5 rfl];refine(B7 _ _ _ _).trans ?_;simp only[BV];cases ev G t x with
  |none=>rfl
  |some x=>
   simp only[ob_some];refine(B7 _ _ _ _).trans ?_;cases ev G t y with
   |none=>rfl
   |some y=>exact iL _ _ _ _ _ _ _
 case unOp op ty x=>
  rw[D5 rfl];refine(B7 _ _ _ _).trans ?_;simp only[BV];cases ev G t x with
  |none=>rfl
  |some x=>
   simp only[ob_some];exact Vj _ _
 case fieldAddr s x f=>
  rw[D5 rfl];refine(B7 _ _ _ _).trans ?_;simp only[BV];cases ev G t x with
  |none=>rfl
  |some x=>
   simp only[ob_some];exact OS _ _ _ _ _
 case field s x f=>
  rw[D5 rfl];refine(B7 _ _ _ _).trans ?_;simp only[BV];cases ev G t x with
  |none=>rfl
  |some x=>
   simp only[ob_some];exact YA _ _ _ _ _
 case indexAddr ty x i=>
  rw[D5 rfl];refine(B7 _ _ _ _).trans ?_;simp only[BV];cases ev G t x with
  |none=>rfl
  |some x=>
   simp only[ob_some];refine(B7 _ _ _ _).trans ?_;cases ev G t i with
   |none=>rfl
   |some i=>exact OT _ _ _ _ _
 case extract x i=>
  rw[D5 rfl];refine(B7 _ _ _ _).trans ?_;simp only[BV];cases ev G t x with
  |none=>rfl
  |some v=>
   simp only[ob_some];cases v<;>try rfl
   exact QY _ _ _
 case lookup ty x k ok=>
  rw[D5 rfl];refine(B7 _ _ _ _).trans ?_;simp only[BV];cases ev G t x with
  |none=>rfl
  |some x=>
   simp only[ob_some];refine(B7 _ _ _ _).trans ?_;cases ev G t k with
   |none=>rfl
   |some k=>exact UB _ _ _ _ _ _ _ _
 case mapUpdate ty x k y=>
  rw[IT rfl];refine(B7 _ _ _ _).trans ?_;simp only[Cv];cases ev G t x with
  |none=>rfl
  |some x=>
   simp only[ob_some];refine(B7 _ _ _ _).trans ?_;cases ev G t k with
   |none=>rfl
   |some k=>
    simp only[ob_some];refine(B7 _ _ _ _).trans ?_;cases ev G t y with
    |none=>rfl
    |some y=>
     simp only[ob_some];refine(JL _ _ _ _ _ _ _ _).trans ?_;cases Cl P K m ty x k y<;>rfl
 case insert ty x k y=>
  rw[IT rfl];refine(B7 _ _ _ _).trans ?_;simp only[Cv];cases ev G t x with
  |none=>rfl
  |some x=>
   simp only[ob_some];refine(B7 _ _ _ _).trans ?_;cases ev G t k with
   |none=>rfl
   |some k=>
    simp only[ob_some];refine(B7 _ _ _ _).trans ?_;cases ev G t y with
    |none=>rfl
    |some y=>
     simp only[ob_some];refine(JL _ _ _ _ _ _ _ _).trans ?_;cases Cl P K m ty x k y<;>rfl
 case call c=>exact YB hcf c
end
def dstF(n:Nat)(d:Option Tmp):Bool:=Option.rec (motive:=λ_=>Bool) true (λd=>Nat.blt d n) d
theorem MN(n:Nat)(d:Option Tmp):dstF n d=HL n d:=by
 cases d with
 |none=>rfl
 |some d=>
  show Nat.blt d n=decide (d<n);rw[Bool.eq_iff_iff];simp[Nat.blt_eq]
def putOF(t:AF)(d:Option Tmp)(v:Value)(q:AF->Option α):Option α:=Option.rec (motive:=λ_=>Option α) (q t) (λd=>Vg t d v q) d
theorem KO(t:AF)(d:Option Tmp)(v:Value)(q:AF->Option α):putOF t d v q=q (putD t d v):=by
 cases d with
 |none=>rfl
 |some d=>exact SH _ _ _ _
def sL(l:List Oper):Nat->Option Oper:=
 List.rec (motive:=λ_=>Nat->Option Oper) (λ_=>none) (λa _ ih i=>Nat.rec (motive:=λ_=>Option Oper) (some a) (λi' _=>ih i') i) l
theorem Vm:∀(l:List Oper) (i:Nat),sL l i=l[i]?
 | [],i=>by simp;rfl
 |a::l,0=>rfl
 |a::l,i+1=>by
  have:=Vm l i;rw[List.getElem?_cons_succ];exact this
def ax(t:AF)(d:Nat)(w:Bool):Bool:=
 (λv=>cond (isB v) (Bool.rec (motive:=λ_=>Bool) (not w) w (wT v)) false) (Option.rec (motive:=λ_=>Value) undef (λv=>v) (iG t d d))
theorem ay(t:AF)(d:Nat)(w:Bool):ax t d w=((match t.at d with| .bool b=>some b|_=>none)==some w):=by
 have e:Option.rec (motive:=λ_=>Value) undef (λv=>v) (iG t d d)=t.at d:=by
  unfold AF.at
  rw[MS];cases Tr.get t d d<;>rfl
 unfold ax
 rw[e]
 cases t.at d<;>try rfl
 rename_i b
 cases b<;>cases w<;>rfl
def wantF(o:Oper)(ops:List Oper)(t:AF):Bool:=
 Option.rec (motive:=λ_=>Bool) true (λg=>Prod.rec (motive:=λ_=>Bool) (λj w=>Option.rec (motive:=λ_=>Bool) false (λo'=>Option.rec (motive:=λ_=>Bool) false (λd=>ax t d w) o'.dst) (sL ops j)) g) o.guard
theorem KP(o:Oper)(ops:List Oper)(t:AF):wantF o ops t=Region.wanted o (EY ops t):=by
 unfold wantF Region.wanted
 cases h:o.guard with
 |none=>rfl
 |some g=>
  obtain⟨j,w⟩:=g;simp only[Vm,EY];cases ops[j]? with
  |none=>rfl
  |some o'=>
   simp only;cases o'.dst with
   |none=>rfl
   |some d=>exact ay t d w
abbrev gj(α:Type):=Program->(TypeId->Bool)->Nat->CF α->Nat->List Oper->AF->Mem->(AF->Mem->Option α)->Option α
def opsF(l:List Oper):gj α:=
 List.rec (motive:=λ_=>gj α) (λ_ _ _ _ _ _ t m q=>q t m)
  (λo _ ih P K G cf n ops t m q=>Bool.rec (motive:=λ_=>Option α) none (Bool.rec (motive:=λ_=>Option α) (putOF t o.dst undef λt'=>ih P K G cf n ops t' m q)
   (opF o.op P K G cf t m λv m'=>putOF t o.dst v λt'=>ih P K G cf n ops t' m' q) (wantF o ops t)) (dstF n o.dst)) l
def yA{β:Type}(r:Option (AF×Mem))(q:AF->Mem->Option β):Option β:=match r with|some (t,m)=>q t m|none=>none
theorem Vn(P:Program)(K:TypeId->Bool)(G:Nat)(cf:CF α)(df:DF)(hcf:∀f a m (q:Value->Mem->Option α),cf f a m q=Ev (df f a m) q)(n:Nat)(ops:List Oper)(q:AF->Mem->Option α):∀(l:List Oper) (t:AF) (m:Mem),
  opsF l P K G cf n ops t m q=yA (EM P K G df n ops l t m) q
 | [],t,m=>rfl
 |o::l,t,m=>by
  have ih:=Vn P K G cf df hcf n ops q l
  show Bool.rec (motive:=λ_=>Option α) none (Bool.rec (motive:=λ_=>Option α) (putOF t o.dst undef λt'=>opsF l P K G cf n ops t' m q)
   (opF o.op P K G cf t m λv m'=>putOF t o.dst v λt'=>opsF l P K G cf n ops t' m' q) (wantF o ops t)) (dstF n o.dst)=_
  simp only[KO,ih,Tk hcf,KP,MN,EM];cases HL n o.dst with
  |false=>rfl
  |true=>
   cases Region.wanted o (EY ops t)with
   |false=>rfl
   |true=>
    simp only[if_true];cases Dr P K G df t m o.op with
    |none=>rfl
    |some r=>rfl
abbrev gi(α:Type):=Program->(TypeId->Bool)->Nat->CF α->Nat->List Oper->AF->Mem->(List Rec->AF->Mem->Option α)->Option α
def recF(l:List Oper):gi α:=
 List.rec (motive:=λ_=>gi α) (λ_ _ _ _ _ _ t m q=>q [] t m)
  (λo _ ih P K G cf n ops t m q=>Bool.rec (motive:=λ_=>Option α) none (Bool.rec (motive:=λ_=>Option α) (putOF t o.dst undef λt'=>ih P K G cf n ops t' m λrs t' m''=>q (⟨false,undef,t,m⟩::rs) t' m'')
   (opF o.op P K G cf t m λv m'=>putOF t o.dst v λt'=>ih P K G cf n ops t' m' λrs t' m''=>q (⟨true,v,t,m⟩::rs) t' m'') (wantF o ops t)) (dstF n o.dst)) l
def yB(r:Option (List Rec×AF×Mem))(q:List Rec->AF->Mem->Option α):Option α:=match r with|some (rs,t,m)=>q rs t m|none=>none
theorem Vo(P:Program)(K:TypeId->Bool)(G:Nat)(cf:CF α)(df:DF)(hcf:∀f a m (q:Value->Mem->Option α),cf f a m q=Ev (df f a m) q)(n:Nat)(ops:List Oper):∀(l:List Oper) (t:AF) (m:Mem) (q:List Rec->AF->Mem->Option α),
  recF l P K G cf n ops t m q=yB (HM P K G df n ops l t m) q
 | [],t,m,q=>rfl
 |o::l,t,m,q=>by
  have ih:=Vo P K G cf df hcf n ops l
  show Bool.rec (motive:=λ_=>Option α) none (Bool.rec (motive:=λ_=>Option α) (putOF t o.dst undef λt'=>recF l P K G cf n ops t' m λrs t' m''=>q (⟨false,undef,t,m⟩::rs) t' m'')
   (opF o.op P K G cf t m λv m'=>putOF t o.dst v λt'=>recF l P K G cf n ops t' m' λrs t' m''=>q (⟨true,v,t,m⟩::rs) t' m'') (wantF o ops t)) (dstF n o.dst)=_
  simp only[KO,ih,Tk hcf,KP,MN,HM];cases HL n o.dst with
  |false=>rfl
  |true=>
   cases Region.wanted o (EY ops t)with
   |false=>
    simp only[if_true];cases HM P K G df n ops l (putD t o.dst undef) m<;>rfl
   |true=>
    simp only[if_true];cases Dr P K G df t m o.op with
    |none=>rfl
    |some r=>
     obtain⟨v,m'⟩:=r;simp only[Ev];cases HM P K G df n ops l (putD t o.dst v) m'<;>rfl
def uW(v' v:Value)(q:Option α):Option α:=
 (λg=>asInt v' (λk n=>asInt v (λk' n'=>Bool.rec (motive:=λ_=>Option α) g (Bool.rec (motive:=λ_=>Option α) none q (eqF n n')) (kEq k k')) g) g) (Bool.rec (motive:=λ_=>Option α) none q (Ov 8 v' v))
theorem K4(b:Bool)(q:Option α):Bool.rec (motive:=λ_=>Option α) none q b=cond b q none:=by cases b<;>rfl
theorem az(v' v:Value)(q:Option α):uW v' v q=cond (Ov 8 v' v) q none:=by
 unfold uW
 refine Eq.trans ?_ (K4 (Ov 8 v' v) q)
 cases v'<;>try rfl
 cases v<;>try rfl
 rename_i k a k' b
 rw[K4 (Ov 8 (.int k a) (.int k' b)) q]
 show Bool.rec (motive:=λ_=>Option α) _ (Bool.rec (motive:=λ_=>Option α) none q (eqF a b)) (kEq k k')=_
 rw[Tz,eqF_eq]
 show _=cond (decide (k=k') && decide (a=b)) q none
 have hab:(a==b)=decide (a=b):=by rw[Bool.eq_iff_iff];simp
 rw[hab]
 by_cases h:k=k'
 ·subst h;rw[decide_eq_true rfl,Bool.true_and];exact K4 _ _
 ·rw[decide_eq_false h,Bool.false_and];have hv:Ov 8 (.int k a) (.int k' b)=false:=by show(decide (k=k') && decide (a=b))=false;rw[decide_eq_false h];rfl
  simp only[hv]
  try rfl
def iO(P:Program)(K:TypeId->Bool)(G:Nat)(ops:List Oper)(rs:List Rec)(m':Mem)(x:Nat×Nat)(q:Option α):Option α:=
 match rs[x.1]?,ops[x.1]? with
 |some r,some o=>Bool.rec (motive:=λ_=>Option α) q (match o.op with
   | .load ty a=>evF a G r.t λv=>Lk P (C8 rs m' x.2) ty v λv=>Tl P ty v λv'=>uW v' r.v q
   | .convert a b y=>evF y G r.t λv=>ob (IC P (C8 rs m' x.2) a b v) λv'=>uW v' r.v q
   |_=>Bool.rec (motive:=λ_=>Option α) none q (Hm P K G ops rs m' x)) r.want
 |_,_=>none
theorem iP(P:Program)(K:TypeId->Bool)(G:Nat)(ops:List Oper)(rs:List Rec)(m':Mem)(x:Nat×Nat)(q:Option α):iO P K G ops rs m' x q=cond (Hm P K G ops rs m' x) q none:=by
 unfold iO
 have hc:Hm P K G ops rs m' x=(match rs[x.1]?,ops[x.1]? with
  |some r,some o=> !r.want||(match BV P K G r.t (C8 rs m' x.2) o.op with|some v=>Ov 8 v r.v|none=>false)
  |_,_=>false):=rfl
 cases hr:rs[x.1]? with
 |none=>rw[hr]at hc;rw[hc];rfl
 |some r=>
  cases ho:ops[x.1]? with
  |none=>rw[hr,ho]at hc;rw[hc];rfl
  |some o=>
   rw[hr,ho]at hc;simp only at hc ⊢;cases hw:r.want with
   |false=>rw[hc,hw];rfl
   |true=>
    simp only;have hg:Bool.rec (motive:=λ_=>Option α) none q (Hm P K G ops rs m' x)=cond (Hm P K G ops rs m' x) q none:=K4 _ _;cases hop:o.op<;>try exact hg
    case convert a b y=>
     rw[hc,hw,hop];simp only[B7,az,BV,Bool.not_true,Bool.false_or];cases ev G r.t y with
     |none=>rfl
     |some v=>
      simp only[ob_some];cases IC P (C8 rs m' x.2) a b v with
      |none=>rfl
      |some v'=>rfl
    rename_i ty a;rw[hc,hw,hop];simp only[B7,KR,IJ,az,BV,Bool.not_true,Bool.false_or];cases ev G r.t a with
    |none=>rfl
    |some v=>
     simp only[ob_some];cases EF P (C8 rs m' x.2) ty v with
     |none=>rfl
     |some u=>
      simp only[ob_some,T7];cases Zs P ty u<;>rfl
def bA(P:Program)(K:TypeId->Bool)(G:Nat)(ops:List Oper)(rs:List Rec)(m':Mem)(l:List (Nat×Nat))(q:Option α):Option α:=
 List.rec (motive:=λ_=>Option α) q (λx _ ih=>iO P K G ops rs m' x ih) l
theorem SM(P:Program)(K:TypeId->Bool)(G:Nat)(ops:List Oper)(rs:List Rec)(m':Mem):∀(l:List (Nat×Nat)) (q:Option α),bA P K G ops rs m' l q=cond (l.all (Hm P K G ops rs m')) q none
 | [],q=>rfl
 |x::l,q=>by
  have ih:=SM P K G ops rs m' l q;show iO P K G ops rs m' x (bA P K G ops rs m' l q)=_;rw[iP,ih,List.all_cons];cases Hm P K G ops rs m' x<;>rfl
def drawF(P:Program)(K:TypeId->Bool)(G:Nat)(cf:CF α)(n:Nat)(ops:List Oper)(t:AF)(m:Mem)(q:AF->Mem->Option α):Option α:=
 Bool.rec (motive:=λ_=>Option α) none (recF ops P K G cf n ops t m λrs t' m'=>bA P K G ops rs m' (LI ops) (Bool.rec (motive:=λ_=>Option α) none (q t' m')
  ((Jc ops).all (R9 rs m')))) (Rg ops)
theorem bB(P:Program)(K:TypeId->Bool)(G:Nat)(cf:CF α)(df:DF)(hcf:∀f a m (q:Value->Mem->Option α),cf f a m q=Ev (df f a m) q)(n:Nat)(ops:List Oper)(t:AF)(m:Mem)(q:AF->Mem->Option α):drawF P K G cf n ops t m q=yA (AV P K G df n ops t m) q:=by
 unfold drawF AV
 simp only[Vo P K G cf df hcf,Rh,SM,FX (NV ops),FX (NW ops)]
 cases Lg ops (Cz ops [])with
 |false=>rfl
 |true=>
  simp only[if_true];cases HM P K G df n ops ops t m with
  |none=>rfl
  |some r=>
   obtain⟨rs,t',m'⟩:=r;simp only[yB];cases(NG ops (Cz ops [])).all (Hm P K G ops rs m')with
   |false=>rfl
   |true=>cases(NH ops (Cz ops [])).all (R9 rs m')<;>rfl
abbrev ExK(α:Type):=Ex->AF->Mem->Option α
def onE(r:Option (Ex×AF×Mem))(q:ExK α):Option α:=match r with|some (e,t,m)=>q e t m|none=>none
def loopF(body:AF->Mem->ExK α->Option α)(k:Nat):AF->Mem->ExK α->Option α:=
 Nat.rec (motive:=λ_=>AF->Mem->ExK α->Option α) (λ_ _ _=>none) (λ_ ih t m q=>body t m λe t' m'=>Ex.rec (motive:=λ_=>Option α) (ih t' m' q) (λid=>q (.exit id) t' m') (q .ret t' m') e) k
theorem SN{body:AF->Mem->ExK α->Option α}{b:AF->Mem->Option (Ex×AF×Mem)}(hb:∀t m q,body t m q=onE (b t m) q):∀(k:Nat) (t:AF) (m:Mem) (q:ExK α),loopF body k t m q=onE (BT b k t m) q
 |0,t,m,q=>rfl
 |k+1,t,m,q=>by
  have ih:=SN hb k;show(body t m λe t' m'=>Ex.rec (motive:=λ_=>Option α) (loopF body k t' m' q) (λid=>q (.exit id) t' m') (q .ret t' m') e)=_;simp only[hb,ih,BT];cases b t m with
  |none=>rfl
  |some r=>
   obtain⟨e,t',m'⟩:=r;cases e<;>rfl
abbrev LK(α:Type):=(AF->Mem->ExK α->Option α)->Code->Nat->AF->Mem->ExK α->Option α
abbrev V1(α:Type):=Program->(TypeId->Bool)->Nat->CF α->LK α->Nat->Nat->AF->Mem->ExK α->Option α
def codeF(c:Code):V1 α:=
 Code.rec (motive:=λ_=>V1 α)
  (λ_ _ _ _ _ _ _ t m q=>q .normal t m)
  (λ_ ops draw P K G cf _ n _ t m q=>Bool.rec (motive:=λ_=>Option α) (opsF ops.toList P K G cf n ops.toList t m λt m=>q .normal t m) (drawF P K G cf n ops.toList t m λt m=>q .normal t m) draw)
  (λ_ _ ia ib P K G cf L n k t m q=>ia P K G cf L n k t m λe t m=>Ex.rec (motive:=λ_=>Option α) (ib P K G cf L n k t m q) (λid=>q (.exit id) t m) (q .ret t m) e)
  (λc _ _ ix iy P K G cf L n k t m q=>evF c G t λv=>asBool v (ix P K G cf L n k t m q) (iy P K G cf L n k t m q))
  (λid _ ib P K G cf L n k t m q=>ib P K G cf L n k t m λe t m=>Ex.rec (motive:=λ_=>Option α) (q .normal t m) (λid'=>Bool.rec (motive:=λ_=>Option α) (q (.exit id') t m) (q .normal t m) (Nat.beq id' id)) (q .ret t m) e)
  (λc ib P K G cf L n k t m q=>L (λt m q=>ib P K G cf L n k t m q) c k t m q)
  (λ_ _ _ _ _ _ _ _ _ _ _ _ _ _ _ _=>none)
  (λid _ _ _ _ _ _ _ t m q=>q (.exit id) t m)
  (λ_ ic P K G cf L n k t m q=>ic P K G cf L n k t m q)
  (λ_ _ _ _ _ _ _ _ t m q=>q .normal t m)
  (λ_ _ _ _ _ _ _ _ _ _ _=>none)
  (λ_ _ _ _ _ _ _ t m q=>q .ret t m)
  (λ_ _ _ _ _ _ _ _ _ _ _=>none)
  c
theorem codeF_eq(P:Program)(K:TypeId->Bool)(G:Nat)(cf:CF α)(df:DF)(hcf:∀f a m (q:Value->Mem->Option α),cf f a m q=Ev (df f a m) q)(L:LK α)(n k:Nat) (hL:∀(body:AF->Mem->ExK α->Option α) (c:Code) (t:AF) (m:Mem) (q:ExK α),(∀t m q,body t m q=onE (AI P K G df (AV P K G df n) n k c t m) q)->L body c k t m q=onE (BT (AI P K G df (AV P K G df n) n k c) k t m) q):∀(c:Code) (t:AF) (m:Mem) (q:ExK α),codeF c P K G cf L n k t m q=onE (AI P K G df (AV P K G df n) n k c t m) q:=by
 intro c
 induction c with
 |skip=>intros;rfl
 |label l=>intros;rfl
 |region id ops draw=>
  intro t m q;show Bool.rec (motive:=λ_=>Option α) (opsF ops.toList P K G cf n ops.toList t m λt m=>q .normal t m) (drawF P K G cf n ops.toList t m λt m=>q .normal t m) draw=_;rw[Vn P K G cf df hcf,bB P K G cf df hcf];simp only[AI];cases draw with
  |false=>
   simp only[cond_false];cases EM P K G df n ops.toList ops.toList t m<;>rfl
  |true=>
   simp only[cond_true];cases AV P K G df n ops.toList t m<;>rfl
 |seq a b iha ihb=>
  intro t m q;refine(iha t m _).trans ?_;simp only[AI];cases AI P K G df (AV P K G df n) n k a t m with
  |none=>rfl
  |some r=>
   obtain⟨e,t',m'⟩:=r;cases e with
   |normal=>exact ihb t' m' q
   |exit id=>rfl
   |ret=>rfl
 |cond c x y ihx ihy=>
  intro t m q;refine(B7 _ _ _ _).trans ?_;simp only[AI];cases ev G t c with
  |none=>rfl
  |some v=>
   simp only[ob_some];cases v<;>try rfl
   rename_i b;cases b with
   |true=>exact ihx t m q
   |false=>exact ihy t m q
 |block id c ih=>
  intro t m q;refine(ih t m _).trans ?_;simp only[AI];cases AI P K G df (AV P K G df n) n k c t m with
  |none=>rfl
  |some r=>
   obtain⟨e,t',m'⟩:=r;cases e with
   |normal=>rfl
   |ret=>rfl
   |exit id'=>
    show Bool.rec (motive:=λ_=>Option α) (q (.exit id') t' m') (q .normal t' m') (Nat.beq id' id)=_;rw[Tm];simp only;by_cases h:id'=id
    ·rw[decide_eq_true h,if_pos h];rfl
    ·rw[decide_eq_false h,if_neg h];rfl
 |loop c ih=>
  intro t m q;exact hL _ c t m q λt m q=>ih t m q
 |exit id=>intros;rfl
 |ret=>intros;rfl
 |rangeFunc=>intros;rfl
 |scope c ih=>intro t m q;exact ih t m q
 |goto=>intros;rfl
 |refuse=>intros;rfl
def NX(l:List ResultVar):Program->AF->Mem->(List Value->Option α)->Option α:=
 List.rec (motive:=λ_=>Program->AF->Mem->(List Value->Option α)->Option α) (λ_ _ _ q=>q [])
  (λr _ ih P t m q=>match r with
   | .tmp d=>Nq t d λv=>ih P t m λvs=>q (v::vs)
   | .cell a ty=>Nq t a λa=>Lk P m ty a λv=>ih P t m λvs=>q (v::vs)) l
theorem Ip(P:Program)(t:AF)(m:Mem):∀(l:List ResultVar) (q:List Value->Option α),NX l P t m q=ob (DK P t m l) q
 | [],q=>rfl
 | .tmp d::l,q=>by
  have ih:=Ip P t m l;show(Nq t d λv=>NX l P t m λvs=>q (v::vs))=_;simp only[Nr,ih,DK];cases DK P t m l<;>rfl
 | .cell a ty::l,q=>by
  have ih:=Ip P t m l;show(Nq t a λa=>Lk P m ty a λv=>NX l P t m λvs=>q (v::vs))=_;simp only[Nr,KR,ih,DK];cases EF P m ty (t.at a)with
  |none=>rfl
  |some v=>
   simp only[ob_some];cases DK P t m l<;>rfl
def aH(l:List Value):Nat->(AF->Option α)->Option α:=
 List.rec (motive:=λ_=>Nat->(AF->Option α)->Option α) (λ_ q=>q .nil) (λv _ ih i q=>ih (Nat.succ i) λt=>Vg t i v q) l
theorem NZ:∀(l:List Value) (i:Nat) (q:AF->Option α),aH l i q=q (G5 i l)
 | [],_,_=>rfl
 |v::l,i,q=>(NZ l (i+1) λt=>Vg t i v q).trans (SH _ _ _ _)
def oF(P:Program)(K:TypeId->Bool)(G:Nat)(k:Nat)(cf:CF α)(fn:Func)(c:Code)(args:List Value)(m:Mem)(q:Value->Mem->Option α):Option α:=
 aH args 0 λt=>codeF c P K G cf (λbody _ k t m q=>loopF body k t m q) (max args.length fn.ntmps) k t m λe t' m'=>Ex.rec (motive:=λ_=>Option α) (NX fn.results.toList P t' m' λvs=>q (F6 vs) m') (λ_=>none) (NX fn.results.toList P t' m' λvs=>q (F6 vs) m') e
def callK(P:Program)(K:TypeId->Bool)(G:Nat)(k:Nat):CF α:=
 Nat.rec (motive:=λ_=>CF α) (λ_ _ _ _=>none) (λk ih f args m q=>Option.rec (motive:=λ_=>Option α) none (λfn=>Option.rec (motive:=λ_=>Option α) none (λc=>oF P K G k ih fn c args m q) fn.body) P.funcs[f]?) k
theorem callK_eq(P:Program)(K:TypeId->Bool)(G:Nat):∀(k:Nat) (f:FuncId) (args:List Value) (m:Mem) (q:Value->Mem->Option α),callK P K G k f args m q=Ev (DH P K G k f args m) q
 |0,_,_,_,_=>rfl
 |k+1,f,args,m,q=>by
  have ih:=callK_eq P K G k;simp only[DH];show Option.rec (motive:=λ_=>Option α) none (λfn=>Option.rec (motive:=λ_=>Option α) none (λc=>oF P K G k (callK P K G k) fn c args m q) fn.body) P.funcs[f]?=_;cases P.funcs[f]? with
  |none=>rfl
  |some fn=>
   simp only;cases hb:fn.body with
   |none=>rfl
   |some c=>
    simp only[oF,NZ,codeF_eq P K G (callK P K G k) (DH P K G k) ih (λbody _ k t m q=>loopF body k t m q) _ k (λbody c t m q hb=>SN hb k t m q),Ip];cases AI P K G (DH P K G k) (AV P K G (DH P K G k) (max args.length fn.ntmps)) (max args.length fn.ntmps) k c (G5 0 args) m with
    |none=>rfl
    |some r=>
     obtain⟨e,t',m'⟩:=r;cases e with
     |normal=>
      simp only[onE];cases DK P t' m' fn.results.toList<;>rfl
     |exit id=>rfl
     |ret=>
      simp only[onE];cases DK P t' m' fn.results.toList<;>rfl
end
end Go.DI.Y
namespace Go.DI
section
variable{P:Program}{K:TypeId->Bool}{G B0:Nat}
def NY(P:Program)(K:TypeId->Bool)(G:Nat)(cf:FuncId->List Value->Mem->Option (Value×Mem))(k:Nat)(f:FuncId)(args:List Value)(m:Mem):Option (Value×Mem):=
 match P.funcs[f]? with
  |some fn=>match fn.body with
   |some c=>match AI P K G cf (AV P K G cf (max args.length fn.ntmps)) (max args.length fn.ntmps) k c (G5 0 args) m with
    |some (.normal,t,m')=>match DK P t m' fn.results.toList with
     |some vs=>some (F6 vs,m')
     |none=>none
    |some (.ret,t,m')=>match DK P t m' fn.results.toList with
     |some vs=>some (F6 vs,m')
     |none=>none
    |_=>none
   |none=>none
  |none=>none
abbrev C1:=FuncId->List Value->Mem->Option (Value×Mem)
def CG(P:Program)(K:TypeId->Bool)(G:Nat)(o:C1):Nat->FuncId->List Value->Mem->Option (Value×Mem)
 |0,_,_,_=>none
 |k+1,f,args,m=>match o f args m with
  |some r=>some r
  |none=>NY P K G (CG P K G o k) k f args m
theorem PF{cf:FuncId->List Value->Mem->Option (Value×Mem)}(ih:B5 cf)(k:Nat)(f:FuncId)(args:List Value)(m:Mem)(v:Value)(m':Mem)(h:NY P K G cf k f args m=some (v,m')):EL m m':=by
 simp only[NY]at h
 split at h<;>try (simp at h;done)
 split at h<;>try (simp at h;done)
 split at h<;>try (simp at h;done)
 all_goals
  rename_i hc;split at h<;>simp at h;rw[←h.2];exact LG ih (λ_ _ _ _ _ h=>Ik ih h) _ _ _ _ _ _ hc
theorem CK{o:C1}(ho:B5 o):∀(k:Nat),B5 (CG P K G o k)
 |0=>λf args m v m' h=>by simp[CG]at h
 |k+1=>λf args m v m' h=>by
  simp only[CG]at h;split at h
  ·rename_i r hr;simp at h;subst h;exact ho _ _ _ _ _ hr
  ·exact PF (CK ho k) k f args m v m' h
theorem aP(Bu:P.follows .mixedOrders=true)(hK:Plain P K)(Ed:PY P){cf:FuncId->List Value->Mem->Option (Value×Mem)}(ih:CR P B0 G cf)(hg:B5 cf)(k:Nat):CR P B0 G (NY P K G cf k):=by
  refine⟨λf args m v m' h=>(PF hg k f args m v m' h).size,λf args m v m' h=>?_,λf args m v m' h=>?_⟩
  ·simp only[NY]at h;split at h<;>try (simp at h;done)
   rename_i fn hfn;split at h<;>try (simp at h;done)
   rename_i c hc;intro ι w args' hr hf hargs;have hlen:=hargs.length
   have ht0:Be ι (max args.length fn.ntmps) (G5 0 args) {tmps:=args'.toArray++Array.replicate (fn.ntmps - args'.toArray.size) undef,defers:= []}:=by
    refine⟨by simp;omega,λd=>?_⟩;rw[NK];simp only[Nat.zero_le,if_true,Nat.sub_zero];cases hd:args[d]? with
    |some v=>
     obtain⟨y,hy,hry⟩:=hargs.get hd
     have hlt:d<args'.length:=by
      rcases Nat.lt_or_ge d args'.length with h1|h1
      ·exact h1
      ·rw[List.getElem?_eq_none h1]at hy;cases hy
     have:(args'.toArray++Array.replicate (fn.ntmps - args'.toArray.size) undef).getD d undef=y:=by
      rw[Array.getD_eq_getD_getElem?,Array.getElem?_append_left (by simpa using hlt),List.getElem?_toArray,hy];rfl
     rw[this];exact hry
    |none=>
     have hge:args.length<=d:=List.getElem?_eq_none_iff.1 hd
     have:(args'.toArray++Array.replicate (fn.ntmps - args'.toArray.size) undef).getD d undef=undef:=by
      rw[Array.getD_eq_getD_getElem?,Array.getElem?_append_right (by simp;omega),Array.getElem?_replicate];split<;>rfl
     rw[this];exact AZ.undef _
   have fin:∀(e:Ex) (t':AF) (m₁:Mem),AI P K G cf (AV P K G cf (max args.length fn.ntmps)) (max args.length fn.ntmps) k c (G5 0 args) m=some (e,t',m₁)->(e= .normal\/e= .ret)->
     (match DK P t' m₁ fn.results.toList with|some vs=>some (F6 vs,m₁)|none=>none)=some (v,m')->
     Calls P f args'.toArray w λe w'=>∃v' ι',e= .returned v'/\AZ ι' v v'/\Rel B0 G ι' m' w'/\EP ι ι' m m' w w':=by
    intro e t' m₁ hcode he hres;split at hres<;>simp at hres;rename_i vs hvs;obtain⟨rfl,rfl⟩:=hres;refine calls_of_wp hfn hc (KK hK ih (LF Bu hK ih hg) c _ _ _ _ _ hcode ι w _ _ hr ht0 hf λa' w' ha=>?_);obtain⟨ι',g1,g2,g3,g4⟩:=ha;obtain⟨v',q1,q2⟩:=H2 (P:=P) g2 g1 hvs;rcases he with rfl|rfl
    ·exact⟨g4,v',q1,v',ι',rfl,q2,g2,g3⟩
    ·exact⟨g4,v',q1,v',ι',rfl,q2,g2,g3⟩
   split at h<;>try (simp at h;done)
   ·rename_i t' m₁ hcode;exact fin _ _ _ hcode (.inl rfl) h
   ·rename_i t' m₁ hcode;exact fin _ _ _ hcode (.inr rfl) h
  ·simp only[NY]at h;split at h<;>try (simp at h;done)
   rename_i fn hfn;split at h<;>try (simp at h;done)
   rename_i c hc;exact⟨fn,hfn,by simp[hc],Ed f fn hfn (by simp[hc])⟩
theorem Co(Bu:P.follows .mixedOrders=true)(hK:Plain P K)(Ed:PY P){o:C1}(ho:CR P B0 G o)(hg:B5 o):∀(k:Nat),CR P B0 G (CG P K G o k)
 |0=>⟨λf args m v m' h=>by simp[CG]at h,λf args m v m' h=>by simp[CG]at h,λf args m v m' h=>by simp[CG]at h⟩
 |k+1=>by
  have ih:=aP Bu hK Ed (Co Bu hK Ed ho hg k) (CK hg k) k;refine⟨λf args m v m' h=>?_,λf args m v m' h=>?_,λf args m v m' h=>?_⟩
  all_goals
   simp only[CG]at h;split at h
  ·rename_i r hr;simp at h;subst h;exact ho.size _ _ _ _ _ hr
  ·exact ih.size _ _ _ _ _ h
  ·rename_i r hr;simp at h;subst h;exact ho.ok _ _ _ _ _ hr
  ·exact ih.ok _ _ _ _ _ h
  ·rename_i r hr;simp at h;subst h;exact ho.body _ _ _ _ _ hr
  ·exact ih.body _ _ _ _ _ h
end
end Go.DI
namespace Go.DI
noncomputable section
def up(x:Nat->Value)(l:List (Nat×Value)):Nat->Value:=
 List.rec (motive:=λ_=>Nat->Value) x (λp _ ih i=>Bool.rec (motive:=λ_=>Value) (ih i) p.2 (Nat.beq p.1 i)) l
def AB(n:Nat)(x:Nat->Value):AF:=Nat.rec (motive:=λ_=>AF) .nil (λi t=>AF.set t i (x i)) n
theorem GL(x:Nat->Value)(d:Nat):∀n,(AB n x).at d=if d<n then x d else undef
 |0=>by simp[AB,AF.at,Tr.get]
 |n+1=>by
  have ih:=GL x d n;show(AF.set (AB n x) n (x n)).at d=_;rw[AF.at_set,ih];by_cases h:d=n
  ·subst h;simp
  ·by_cases h2:d<n
   ·simp[h,h2,Nat.lt_succ_of_lt h2]
   ·have:¬d<n+1:=by omega
    simp[h,h2,this]
def x0:Nat->Value:=λ_=>undef
def Bv(l:List Value):Nat->Value:=
 List.rec (motive:=λ_=>Nat->Value) x0 (λa _ ih i=>Nat.rec (motive:=λ_=>Value) a (λi' _=>ih i') i) l
theorem QS:∀(l:List Value) (i:Nat),Bv l i=(l[i]?).getD undef
 | [],i=>by simp[Bv,x0]
 |a::l,0=>rfl
 |a::l,i+1=>by
  have:=QS l i;rw[List.getElem?_cons_succ];exact this
section
variable{P:Program}{K:TypeId->Bool}{G B0:Nat}
abbrev EV:=FuncId->List Value->Mem->Option (Value×Mem)
def Tt(P:Program)(fn:Func):Option (Ex×AF×Mem)->Option (Value×Mem)
 |some (.normal,t,m')=>match DK P t m' fn.results.toList with
  |some vs=>some (F6 vs,m')
  |none=>none
 |some (.ret,t,m')=>match DK P t m' fn.results.toList with
  |some vs=>some (F6 vs,m')
  |none=>none
 |_=>none
def Cu(P:Program)(K:TypeId->Bool)(G:Nat)(cf:EV)(k:Nat)(f:FuncId)(args:List Value)(m:Mem):Option (Value×Mem):=
 match P.funcs[f]? with
  |some fn=>match fn.body with
   |some c=>Tt P fn (AI P K G cf (AV P K G cf (max args.length fn.ntmps)) (max args.length fn.ntmps) k c (AB (max args.length fn.ntmps) (Bv args)) m)
   |none=>none
  |none=>none
def sH(P:Program)(f:FuncId):List TypeId:=match P.funcs[f]? with|some fn=>fn.resultTypes.toList|none=> []
def sI(P:Program):List TypeId->List Value->Bool
 | [],[]=>true
 |t::ts,v::vs=>Zs P t v && sI P ts vs
 |_,_=>false
def I5(P:Program)(f:FuncId)(v:Value):Bool:=
 match sH P f with
 | [t]=>Zs P t v
 | []=>true
 |ts=>match v with| .tuple cs=>sI P ts cs.toList|_=>false
def PD(P:Program)(f:FuncId):Option (Value×Mem)->Option (Value×Mem)
 |some (v,m)=>cond (I5 P f v) (some (v,m)) none
 |none=>none
theorem Nb{P:Program}{f:FuncId}{r:Option (Value×Mem)}{x:Value×Mem}(h:PD P f r=some x):r=some x:=by
 cases r with
 |none=>cases h
 |some p=>
  obtain⟨v,m⟩:=p;simp only[PD]at h;cases hk:I5 P f v<;>rw[hk]at h<;>simp at h;rw[h]
def AJ(P:Program)(K:TypeId->Bool)(G:Nat)(o:C1):Nat->FuncId->List Value->Mem->Option (Value×Mem)
 |0,_,_,_=>none
 |k+1,f,args,m=>PD P f (match o f args m with
  |some r=>some r
  |none=>Cu P K G (AJ P K G o k) k f args m)
theorem Fz{cf:EV}(ih:B5 cf)(k:Nat)(f:FuncId)(args:List Value)(m:Mem)(v:Value)(m':Mem)(h:Cu P K G cf k f args m=some (v,m')):EL m m':=by
 simp only[Cu]at h
 split at h<;>try (simp at h;done)
 split at h<;>try (simp at h;done)
 simp only[Tt]at h
 split at h<;>try (simp at h;done)
 all_goals
  rename_i hc;split at h<;>simp at h;rw[←h.2];exact LG ih (λ_ _ _ _ _ h=>Ik ih h) _ _ _ _ _ _ hc
theorem Iv{o:C1}(ho:B5 o):∀(k:Nat),B5 (AJ P K G o k)
 |0=>λf args m v m' h=>by simp[AJ]at h
 |k+1=>λf args m v m' h=>by
  simp only[AJ]at h;have h:=Nb h;split at h
  ·rename_i r hr;simp at h;subst h;exact ho _ _ _ _ _ hr
  ·exact Fz (Iv ho k) k f args m v m' h
theorem HJ(Bu:P.follows .mixedOrders=true)(hK:Plain P K)(Ed:PY P){cf:EV}(ih:CR P B0 G cf)(hg:B5 cf)(k:Nat):CR P B0 G (Cu P K G cf k):=by
  refine⟨λf args m v m' h=>(Fz hg k f args m v m' h).size,λf args m v m' h=>?_,λf args m v m' h=>?_⟩
  ·simp only[Cu]at h;split at h<;>try (simp at h;done)
   rename_i fn hfn;split at h<;>try (simp at h;done)
   rename_i c hc;intro ι w args' hr hf hargs;have hlen:=hargs.length
   have ht0:Be ι (max args.length fn.ntmps) (AB (max args.length fn.ntmps) (Bv args)) {tmps:=args'.toArray++Array.replicate (fn.ntmps - args'.toArray.size) undef,defers:= []}:=by
    refine⟨by simp;omega,λd=>?_⟩;rw[GL,QS];cases hd:args[d]? with
    |some v=>
     obtain⟨y,hy,hry⟩:=hargs.get hd
     have hlt:d<args'.length:=by
      rcases Nat.lt_or_ge d args'.length with h1|h1
      ·exact h1
      ·rw[List.getElem?_eq_none h1]at hy;cases hy
     have:(args'.toArray++Array.replicate (fn.ntmps - args'.toArray.size) undef).getD d undef=y:=by
      rw[Array.getD_eq_getD_getElem?,Array.getElem?_append_left (by simpa using hlt),List.getElem?_toArray,hy];rfl
     rw[this,if_pos (by omega)];exact hry
    |none=>
     have hge:args.length<=d:=List.getElem?_eq_none_iff.1 hd
     have:(args'.toArray++Array.replicate (fn.ntmps - args'.toArray.size) undef).getD d undef=undef:=by
      rw[Array.getD_eq_getD_getElem?,Array.getElem?_append_right (by simp;omega),Array.getElem?_replicate];split<;>rfl
     rw[this];split
     ·exact AZ.undef _
     ·exact AZ.undef _
   have fin:∀(e:Ex) (t':AF) (m₁:Mem),AI P K G cf (AV P K G cf (max args.length fn.ntmps)) (max args.length fn.ntmps) k c (AB (max args.length fn.ntmps) (Bv args)) m=some (e,t',m₁)->(e= .normal\/e= .ret)->
     (match DK P t' m₁ fn.results.toList with|some vs=>some (F6 vs,m₁)|none=>none)=some (v,m')->
     Calls P f args'.toArray w λe w'=>∃v' ι',e= .returned v'/\AZ ι' v v'/\Rel B0 G ι' m' w'/\EP ι ι' m m' w w':=by
    intro e t' m₁ hcode he hres;split at hres<;>simp at hres;rename_i vs hvs;obtain⟨rfl,rfl⟩:=hres;refine calls_of_wp hfn hc (KK hK ih (LF Bu hK ih hg) c _ _ _ _ _ hcode ι w _ _ hr ht0 hf λa' w' ha=>?_);obtain⟨ι',g1,g2,g3,g4⟩:=ha;obtain⟨v',q1,q2⟩:=H2 (P:=P) g2 g1 hvs;rcases he with rfl|rfl
    ·exact⟨g4,v',q1,v',ι',rfl,q2,g2,g3⟩
    ·exact⟨g4,v',q1,v',ι',rfl,q2,g2,g3⟩
   simp only[Tt]at h;split at h<;>try (simp at h;done)
   ·rename_i t' m₁ hcode;exact fin _ _ _ hcode (.inl rfl) h
   ·rename_i t' m₁ hcode;exact fin _ _ _ hcode (.inr rfl) h
  ·simp only[Cu]at h;split at h<;>try (simp at h;done)
   rename_i fn hfn;split at h<;>try (simp at h;done)
   rename_i c hc;exact⟨fn,hfn,by simp[hc],Ed f fn hfn (by simp[hc])⟩
theorem Nc(Bu:P.follows .mixedOrders=true)(hK:Plain P K)(Ed:PY P){o:C1}(ho:CR P B0 G o)(hg:B5 o):∀(k:Nat),CR P B0 G (AJ P K G o k)
 |0=>⟨λf args m v m' h=>by simp[AJ]at h,λf args m v m' h=>by simp[AJ]at h,λf args m v m' h=>by simp[AJ]at h⟩
 |k+1=>by
  have ih:=HJ Bu hK Ed (Nc Bu hK Ed ho hg k) (Iv hg k) k;refine⟨λf args m v m' h=>?_,λf args m v m' h=>?_,λf args m v m' h=>?_⟩
  all_goals
   simp only[AJ]at h;have h:=Nb h;split at h
  ·rename_i r hr;simp at h;subst h;exact ho.size _ _ _ _ _ hr
  ·exact ih.size _ _ _ _ _ h
  ·rename_i r hr;simp at h;subst h;exact ho.ok _ _ _ _ _ hr
  ·exact ih.ok _ _ _ _ _ h
  ·rename_i r hr;simp at h;subst h;exact ho.body _ _ _ _ _ hr
  ·exact ih.body _ _ _ _ _ h
end
def ER:Code->List Code
 | .seq a b=>ER a++ER b
 | .cond _ a b=>ER a++ER b
 | .block _ c=>ER c
 | .loop c=>c::ER c
 |_=> []
def AM(fn:Func):Code:=match fn.body with|some c=>c|none=> .skip
def BK(fn:Func)(j:Nat):Code:=match(ER (AM fn))[j]? with|some c=>c|none=> .skip
namespace Y
variable{α:Type}
def onNat(i:Int)(q:Nat->Option α):Option α:=Int.rec (motive:=λ_=>Option α) q (λ_=>none) i
def cfOf(df:EV):CF α:=λf a m q=>Ev (df f a m) q
def lpOf(P:Program)(K:TypeId->Bool)(G:Nat)(df:EV)(n:Nat):LK α:=λ_ c k t m q=>onE (BT (AI P K G df (AV P K G df n) n k c) k t m) q
def unc(l:List Value)(q:Value->List Value->Option α)(d:Option α):Option α:=List.rec (motive:=λ_=>Option α) d (λa l _=>q a l) l
def gp(P:Program)(ts:List TypeId):List Value->(List Value->Option α)->Option α:=
 List.rec (motive:=λ_=>List Value->(List Value->Option α)->Option α) (λcs q=>unc cs (λ_ _=>none) (q []))
  (λt _ ih cs q=>unc cs (λv vs=>Tl P t v λv=>ih vs λl=>q (v::l)) none) ts
theorem V5(P:Program):∀(ts:List TypeId) (cs:List Value) (q:List Value->Option α),gp P ts cs q=cond (sI P ts cs) (q cs) none
 | [],[],q=>rfl
 | [],_::_,q=>rfl
 |_::_,[],q=>rfl
 |t::ts,v::vs,q=>by
  have ih:=V5 P ts vs;show(Tl P t v λv=>gp P ts vs λl=>q (v::l))=_;simp only[ih,IJ,T7,sI];cases Zs P t v<;>cases sI P ts vs<;>rfl
def sJ(v:Value)(q:Value->Option α):Option α:=asBo v (λb=>dg b q) (q v)
theorem gq(v:Value)(q:Value->Option α):sJ v q=q v:=by cases v<;>first|exact IN _ _|rfl
def gr(P:Program)(f:FuncId)(v:Value)(q:Value->Option α):Option α:=
 match sH P f with
 | [t]=>Tl P t v λv=>sJ v q
 | []=>q v
 |ts=>asTup v λcs=>gp P ts cs.toList λl=>q (.tuple ⟨l⟩)
theorem gu(P:Program)(f:FuncId)(v:Value)(q:Value->Option α):gr P f v q=cond (I5 P f v) (q v) none:=by
 unfold gr I5
 split
 ·rw[IJ];simp only[T7,gq];cases Zs P _ v<;>rfl
 ·rfl
 ·cases v<;>try rfl
  rename_i cs;show gp P _ cs.toList _=_;rw[V5]
def cfT(P:Program)(cf:CF α):CF α:=λf a m q=>cf f a m λv m'=>gr P f v λv=>q v m'
theorem ns(P:Program)(df:EV)(h:∀f a m v m',df f a m=some (v,m')->I5 P f v=true)(f:FuncId)(a:List Value)(m:Mem)(q:Value->Mem->Option α):cfT P (cfOf df) f a m q=Ev (df f a m) q:=by
 unfold cfT cfOf
 cases hd:df f a m with
 |none=>rfl
 |some p=>
  obtain⟨v,m'⟩:=p;show gr P f v (λv=>q v m')=_;rw[gu,h f a m v m' hd];rfl
def retF(P:Program)(fn:Func)(q:Value->Mem->Option α):ExK α:=λe t' m'=>
 Ex.rec (motive:=λ_=>Option α) (NX fn.results.toList P t' m' λvs=>q (F6 vs) m') (λ_=>none) (NX fn.results.toList P t' m' λvs=>q (F6 vs) m') e
def Typed(P:Program)(df:EV):Prop:=∀f a m v m',df f a m=some (v,m')->I5 P f v=true
theorem callN_typed(P:Program)(K:TypeId->Bool)(G:Nat)(o:C1):∀k,Typed P (AJ P K G o k)
 |0=>λf a m v m' h=>by cases h
 |k+1=>λf a m v m' h=>by
  simp only[AJ]at h
  revert h
  generalize (match o f a m with|some r=>some r|none=>Cu P K G (AJ P K G o k) k f a m)=r;intro h;cases r with
  |none=>cases h
  |some p=>
   obtain⟨v0,m0⟩:=p;simp only[PD]at h;cases hk:I5 P f v0<;>rw[hk]at h<;>simp at h;rw[←h.1];exact hk
theorem V6(P:Program)(K:TypeId->Bool)(G:Nat)(df:EV)(hdf:Typed P df)(n k:Nat)(c:Code)(t:AF)(m:Mem)(q:ExK α):
  onE (AI P K G df (AV P K G df n) n k c t m) q=codeF c P K G (cfT P (cfOf df)) (lpOf P K G df n) n k t m q:=
 (codeF_eq P K G (cfT P (cfOf df)) df (λf a m q=>ns P df hdf f a m q) (lpOf P K G df n) n k (λ_ _ _ _ _ _=>rfl) c t m q).symm
theorem body_eq{P:Program}{K:TypeId->Bool}{G:Nat}{df:EV}(hdf:Typed P df){k:Nat}{f:FuncId}{fn:Func}{c:Code}(n:Nat)(hf:P.funcs[f]?=some fn)(hc:fn.body=some c)(args:List Value)(hn:max args.length fn.ntmps=n)(m:Mem):
  Cu P K G df k f args m=codeF c P K G (cfT P (cfOf df)) (lpOf P K G df n) n k (AB n (Bv args)) m (retF P fn λv m=>some (v,m)):=by
 rw[←V6 P K G df hdf,Cu,hf]
 simp only[hc,hn]
 cases AI P K G df (AV P K G df n) n k c (AB n (Bv args)) m with
 |none=>rfl
 |some r=>
  obtain⟨e,t,m'⟩:=r;cases e with
  |normal=>
   show _=NX fn.results.toList P t m' λvs=>some (F6 vs,m');rw[Ip];simp only[Tt];cases DK P t m' fn.results.toList<;>rfl
  |exit id=>rfl
  |ret=>
   show _=NX fn.results.toList P t m' λvs=>some (F6 vs,m');rw[Ip];simp only[Tt];cases DK P t m' fn.results.toList<;>rfl
def q0:ExK (Ex×AF×Mem):=λe t m=>some (e,t,m)
theorem step_eq(P:Program)(K:TypeId->Bool)(G:Nat){df:EV}(hdf:Typed P df)(n k:Nat)(c:Code)(t:AF)(m:Mem):
  AI P K G df (AV P K G df n) n k c t m=codeF c P K G (cfT P (cfOf df)) (lpOf P K G df n) n k t m q0:=by
 rw[←V6 P K G df hdf]
 cases AI P K G df (AV P K G df n) n k c t m with
 |none=>rfl
 |some r=>rfl
def loopC(c:Code)(j:Nat):Code:=match(ER c)[j]? with|some c=>c|none=> .skip
def kont(P:Program)(K:TypeId->Bool)(G:Nat)(cf:CF α)(L:LK α)(n k:Nat):Code->Nat->ExK α->ExK α
 | .seq a b,j,q=>cond (Nat.blt j (ER a).length) (kont P K G cf L n k a j λe t m=>Ex.rec (motive:=λ_=>Option α) (codeF b P K G cf L n k t m q) (λid=>q (.exit id) t m) (q .ret t m) e) (kont P K G cf L n k b (j - (ER a).length) q)
 | .cond _ a b,j,q=>cond (Nat.blt j (ER a).length) (kont P K G cf L n k a j q) (kont P K G cf L n k b (j - (ER a).length) q)
 | .block id c,j,q=>kont P K G cf L n k c j λe t m=>Ex.rec (motive:=λ_=>Option α) (q .normal t m) (λid'=>Bool.rec (motive:=λ_=>Option α) (q (.exit id') t m) (q .normal t m) (Nat.beq id' id)) (q .ret t m) e
 |_,_,q=>q
theorem lpOf_eq(P:Program)(K:TypeId->Bool)(G:Nat)(df:EV)(n:Nat)(b:AF->Mem->ExK α->Option α)(c:Code)(k:Nat)(t:AF)(m:Mem)(q:ExK α):lpOf P K G df n b c k t m q=onE (BT (AI P K G df (AV P K G df n) n k c) k t m) q:=rfl
theorem loopC_body(f:Func)(j:Nat):loopC (AM f) j=BK f j:=rfl
theorem onE_some(e:Ex)(t:AF)(m:Mem)(q:ExK α):onE (some (e,t,m)) q=q e t m:=rfl
end Y
end
end Go.DI
namespace Go.DI
open Go.RowKit Go.ChangeShapes Go.WideShapes
def m0:Mem:=⟨λ_=> .none, .nil,0⟩
def Y9(l:List TypeId)(t:TypeId):Bool:=l.any λu=>Nat.beq u t
theorem Ql{P:Program}{l:List TypeId}(h:(l.all λt=>not (P.stoodInHeld t) && not (P.eqGuardType P.depth t))=true):Plain P (Y9 l):=by
 intro t ht
 simp only[Y9,List.any_eq_true]at ht
 obtain⟨u,hu,hut⟩:=ht
 obtain rfl:=Nat.eq_of_beq_eq_true hut
 have:=List.all_eq_true.1 h u hu
 simp only[Bool.and_eq_true,Bool.not_eq_true']at this
 exact this
theorem dq{P:Program}(h:(P.funcs.toList.all fun fn=>fn.body.isNone||not (fn.name== "runtime.NumGoroutine"))=true):PY P:=by
 intro f fn hf hb
 have hm:fn∈P.funcs.toList:=by
  have:P.funcs.toList[f]?=some fn:=by simpa using hf
  exact List.mem_of_getElem? this
 have:=List.all_eq_true.1 h fn hm
 rw[hb]at this
 simpa using this
end Go.DI
namespace Go.DI
open Go.RowKit
end Go.DI
namespace Go.DI
def Ren.sub(ι:Ren)(ρ:Nat->Nat)(k:Nat->Bool):Ren:=λi=>if k i=true then ι (ρ i)else none
def QH(ρ:Nat->Nat)(k:Nat->Bool)(vs v:Value):Prop:=∀(ι:Ren) (v':Value),AZ ι v v'->AZ (ι.sub ρ k) vs v'
def Rc(ρ:Nat->Nat)(vs v:Value):Prop:=∀(ι κ:Ren) (v':Value),(∀i L,ι i=some L->κ (ρ i)=some L)->AZ ι vs v'->AZ κ v v'
structure QJ(ρ:Nat->Nat)(k:Nat->Bool)(bs b:BI):Prop where
 live:bs.live->b.live
 own:bs.own=true->b.own=true
 rel:∀(B0:Nat) (ι:Ren) (L:Loc) (w:World),Bg B0 ι b L w->Bg B0 (ι.sub ρ k) bs L w
structure Td(ρ:Nat->Nat)(bs b:BI):Prop where
 live:b.live->bs.live
 own:b.own=true->bs.own=true
 rel:∀(B0:Nat) (ι κ:Ren) (L:Loc) (w:World),(∀i L,ι i=some L->κ (ρ i)=some L)->Bg B0 ι bs L w->Bg B0 κ b L w
inductive HO(ρ:Nat->Nat)(k:Nat->Bool):List Value->List Value->Prop where
 |nil:HO ρ k [] []
 |cons {x y:Value} {l l':List Value}:QH ρ k x y->HO ρ k l l'->HO ρ k (x::l) (y::l')
theorem HO.rel{ρ:Nat->Nat}{k:Nat->Bool}{ι:Ren}:∀{l l' l'':List Value},HO ρ k l l'->Bb ι l' l''->Bb (ι.sub ρ k) l l''
 |_,_,_, .nil,h=>by cases h;exact .nil
 |_,_,_, .cons h t,g=>by
  cases g with
  |cons g0 gt=>exact .cons (h _ _ g0) (t.rel gt)
theorem QK{x:BI}(h:x.own=true):x.live:=by cases x<;>first|trivial|simp[BI.own]at h
structure Local(ρ:Nat->Nat)(A:Nat->Bool)(ms ms' M M':Mem):Prop where
 sees:∀i,A i=true->i<ms.size
 grw:EL ms ms'
 top:ms.top
 top':M'.top
 old:∀i,A i=true->ρ i<M.size
 inj:∀i j,A i=true->A j=true->(ms.get i).live->(ms.get j).live->ρ i=ρ j->i=j
 new:∀i,ms.size<=i->i<ms'.size->ρ i=M.size+(i - ms.size)
 size:M'.size=M.size+(ms'.size - ms.size)
 sim:∀i,A i=true->QJ ρ A (ms.get i) (M.get (ρ i))
 emb:∀i,i<ms'.size->(A i=true\/ms.size<=i)->M'.get (ρ i)= .none\/Td ρ (ms'.get i) (M'.get (ρ i))
 rest:∀b,b<M.size->(∀i,A i=true->ρ i≠b)->M'.get b=M.get b
theorem aK{P:Program}{B0 G:Nat}(Gs:Nat){f:FuncId}{avs args:List Value}{vs v:Value}{ms ms' M M':Mem}{ρ:Nat->Nat}{A:Nat->Bool}(hG:∀g,g<Gs->g<G/\A g=true/\ρ g=g)(run:EI P B0 Gs f avs ms vs ms')(h:Local ρ A ms ms' M M')
  (ha:HO ρ A avs args) (hv:Rc ρ vs v):EI P B0 G f args M v M':=by
 intro ι w args' hr hf hargs
 have hms:=h.grw.size
 have hrs:Rel B0 Gs (ι.sub ρ A) ms w:=by
  refine⟨λb L hb hL=>?_,λb₁ b₂ L₁ L₂ h1 h2 e1 e2 l1 l2 g0 e=>?_,hr.floor,λg hg=>?_,λb hb=>h.top b hb⟩
  ·simp only[Ren.sub]at hL;split at hL
   ·rename_i hb;exact(h.sim b hb).rel _ _ _ _ (hr.blk _ _ (h.old b hb) hL)
   ·simp at hL
  ·simp only[Ren.sub]at e1 e2;split at e1
   ·rename_i h1;split at e2
    ·rename_i h2;exact h.inj _ _ h1 h2 l1 l2 (hr.inj _ _ _ _ (h.old _ h1) (h.old _ h2) e1 e2 ((h.sim _ h1).live l1) ((h.sim _ h2).live l2) g0 e)
    ·simp at e2
   ·simp at e1
  ·obtain⟨q1,q2,q3⟩:=hG g hg;obtain⟨L,p1,p2⟩:=hr.glob g q1;exact⟨L,by simp only[Ren.sub,q2,if_true,q3];exact p1,p2⟩
 refine(run _ w args' hrs (λb h1 _=>by simp only[Ren.sub];rw[if_neg (λg=>by have:=h.sees b g;omega)]) (ha.rel hargs)).mono ?_
 rintro e w' ⟨v',ι₂,he,hv',hr',hs⟩
 let κ:Ren:=λb=>if b<M.size then ι b else if b<M'.size then ι₂ (ms.size+(b - M.size))else ι b
 have hκold:∀b,b<M.size->κ b=ι b:=λb hb=>by simp only[κ,hb,if_true]
 have hκnew:∀i,ms.size<=i->i<ms'.size->κ (ρ i)=ι₂ i:=λi h1 h2=>by
  have e:=h.new i h1 h2;have e2:=h.size;simp only[κ];rw[if_neg (by omega),if_pos (by omega),e];congr 1;omega
 have hι₂old:∀i,A i=true->ι₂ i=ι (ρ i):=λi hi=>by
  rw[hs.out i (.inl (h.sees i hi))];simp only[Ren.sub,hi,if_true]
 have hι₂none:∀i L,i<ms.size->ι₂ i=some L->A i=true:=λi L hi hL=>by
  rw[hs.out i (.inl hi)]at hL;simp only[Ren.sub]at hL;split at hL
  ·assumption
  ·simp at hL
 have hle:ι.le κ:=λb L hL=>by
  simp only[κ];split
  ·exact hL
  ·split
   ·have:=hf b (by omega) (by omega);rw[this]at hL;cases hL
   ·exact hL
 have hmap:∀i L,ι₂ i=some L->κ (ρ i)=some L:=λi L hL=>by
  rcases Nat.lt_or_ge i ms.size with h0|h1
  ·have h1:=hι₂none i L h0 hL;rw[hκold _ (h.old i h1),←hι₂old i h1];exact hL
  ·rcases Nat.lt_or_ge i ms'.size with h2|h2
   ·rw[hκnew i h1 h2];exact hL
   ·have:=hs.out i (.inr h2);rw[this]at hL;simp only[Ren.sub]at hL;rw[if_neg (λg=>by have:=h.sees i g;have:=h.grw.size;omega)]at hL;cases hL
 have cases3:∀b L,b<M'.size->κ b=some L->(∃i,A i=true/\ρ i=b/\ι₂ i=some L/\ι b=some L)\/(b<M.size/\(∀i,A i=true->ρ i≠b)/\ι b=some L)\/(∃i,ms.size<=i/\i<ms'.size/\ρ i=b/\ι₂ i=some L):=by
  intro b L hb hL;rcases Nat.lt_or_ge b M.size with h1|h1
  ·rw[hκold b h1]at hL;by_cases hx:∃i,A i=true/\ρ i=b
   ·obtain⟨i,hi,rfl⟩:=hx;exact .inl ⟨i,hi,rfl,by rw[hι₂old i hi];exact hL,hL⟩
   ·exact .inr (.inl ⟨h1,λi hi e=>hx ⟨i,hi,e⟩,hL⟩)
  ·have e2:=h.size;have hi:ms.size+(b - M.size)<ms'.size:=by omega
   have e3:=h.new (ms.size+(b - M.size)) (by omega) hi;have e4:ρ (ms.size+(b - M.size))=b:=by omega
   have:=hκnew (ms.size+(b - M.size)) (by omega) hi;rw[e4,hL]at this;exact .inr (.inr ⟨_,by omega,hi,e4,this.symm⟩)
 have hframe:∀B,B<w.heap.size->(∀b L,b<M.size->ι b=some L->(M.get b).own=true->L.block≠B)->w'.heap[B]?=w.heap[B]?:=by
  intro B hB hno;refine hs.frame B hB λi L hi hL ho=>?_;simp only[Ren.sub]at hL;split at hL
  ·rename_i hi;exact hno _ _ (h.old i hi) hL ((h.sim i hi).own ho)
  ·simp at hL
 refine⟨v',κ,he,hv _ _ _ hmap hv',⟨λb L hb hL=>?_,λb₁ b₂ L₁ L₂ h1 h2 e1 e2 l1 l2 g0 e=>?_,hr'.floor,λg hg=>?_,h.top'⟩,
  ⟨hle,λb hb=>?_,hs.os,hs.output,hs.tape,hs.hsize,hframe,λb L h1 h2 hL=>?_,by have:=h.size;omega,λb hb ho=>?_⟩⟩
 ·rcases cases3 b L hb hL with⟨i,hi,rfl,h2,h3⟩|⟨h1,h2,h3⟩|⟨i,hi,hi',rfl,h2⟩
  ·have hi0:=h.sees i hi;rcases h.emb i (by omega) (.inl hi)with g|g
   ·rw[g];trivial
   ·exact g.rel _ _ _ _ _ hmap (hr'.blk _ _ (by omega) h2)
  ·rw[h.rest b h1 h2];have hb0:=hr.blk b L h1 h3;by_cases hl:(M.get b).live
   ·refine Bg.mono hle (hs.frame _ (hr.old _ _ h3 hl) λi L' q1 q2 q3 q4=>?_) hb0;simp only[Ren.sub]at q2;split at q2
    ·rename_i q1;exact h2 i q1 (hr.inj _ _ _ _ (h.old i q1) h1 q2 h3 (QK ((h.sim i q1).own q3)) hl ((hr.blk _ _ (h.old i q1) q2).own_floor ((h.sim i q1).own q3)) q4)
    ·simp at q2
   ·cases hg:M.get b with
    |none=>trivial
    |cells=>rw[hg]at hl;exact absurd trivial hl
    |map=>rw[hg]at hl;exact absurd trivial hl
    |siter=>rw[hg]at hl;exact absurd trivial hl
  ·rcases h.emb i hi' (.inr hi)with g|g
   ·rw[g];trivial
   ·exact g.rel _ _ _ _ _ hmap (hr'.blk _ _ hi' h2)
 ·
  have key:∀b,M'.get b≠ .none->∀i,i<ms'.size->(A i=true\/ms.size<=i)->ρ i=b->(ms'.get i).live:=λb hb i hi hA e=>by
   rcases h.emb i hi hA with g|g
   ·rw[e]at g;exact absurd g hb
   ·refine g.live ?_;rw[e];cases hg:M'.get b with
    |none=>exact absurd hg hb
    |cells=>trivial
    |map=>trivial
    |siter=>trivial
  have ne1:M'.get b₁≠ .none:=λg=>by rw[g]at l1;exact l1
  have ne2:M'.get b₂≠ .none:=λg=>by rw[g]at l2;exact l2
  have mixed:∀b c L L',M'.get b≠ .none->b<M'.size->κ b=some L->c<M.size->(∀i,A i=true->ρ i≠c)->ι c=some L'->(M'.get c).live->B0<=L.block->L.block=L'.block->
    (∃i,i<ms'.size/\(A i=true\/ms.size<=i)/\ρ i=b/\ι₂ i=some L)->False:=by
   intro b c L L' nb hb hL hc hno hLc lc g0 e ⟨i,hi,hA,hib,hiL⟩;have lc':(M.get c).live:=by rw[←h.rest c hc hno];exact lc
   rcases Nat.lt_or_ge i ms.size with h0|h1
   ·have h1:=hι₂none i L h0 hiL;have g1:=h.grw.live i h0 (key b nb i hi hA hib);have g2:=(h.sim i h1).live g1;have g3:ι (ρ i)=some L:=by rw[←hι₂old i h1];exact hiL
    exact hno i h1 (hr.inj _ _ _ _ (h.old i h1) hc g3 hLc g2 lc' g0 e)
   ·rcases hs.new i L h1 hi hiL with g|⟨b0,L0,g1,g2,g3,g4⟩
    ·have:=hr.old c L' hLc lc';omega
    ·simp only[Ren.sub]at g2;split at g2
     ·rename_i g1;exact hno b0 g1 (hr.inj _ _ _ _ (h.old b0 g1) hc g2 hLc (QK ((h.sim b0 g1).own g3)) lc' ((hr.blk _ _ (h.old b0 g1) g2).own_floor ((h.sim b0 g1).own g3)) (by omega))
     ·simp at g2
  have known:∀b L,b<M'.size->κ b=some L->(∃i,i<ms'.size/\(A i=true\/ms.size<=i)/\ρ i=b/\ι₂ i=some L)\/(b<M.size/\(∀i,A i=true->ρ i≠b)/\ι b=some L):=by
   intro b L hb hL;rcases cases3 b L hb hL with⟨i,hi,g1,g2,_⟩|g|⟨i,hi,hi',g1,g2⟩
   ·exact .inl ⟨i,by have:=h.sees i hi;omega, .inl hi,g1,g2⟩
   ·exact .inr g
   ·exact .inl ⟨i,hi', .inr hi,g1,g2⟩
  rcases known b₁ L₁ h1 e1 with k1|k1
  ·rcases known b₂ L₂ h2 e2 with k2|k2
   ·obtain⟨i,hi,hA,q1,q2⟩:=k1;obtain⟨j,hj,hB,r1,r2⟩:=k2;have:=hr'.inj i j _ _ hi hj q2 r2 (key b₁ ne1 i hi hA q1) (key b₂ ne2 j hj hB r1) g0 e;rw[←q1,←r1,this]
   ·exact(mixed b₁ b₂ L₁ L₂ ne1 h1 e1 k2.1 k2.2.1 k2.2.2 l2 g0 e k1).elim
  ·rcases known b₂ L₂ h2 e2 with k2|k2
   ·exact(mixed b₂ b₁ L₂ L₁ ne2 h2 e2 k1.1 k1.2.1 k1.2.2 l1 (Nat.le_trans g0 (Nat.le_of_eq e)) e.symm k2).elim
   ·refine hr.inj _ _ _ _ k1.1 k2.1 k1.2.2 k2.2.2 ?_ ?_ g0 e
    ·rw[←h.rest _ k1.1 k1.2.1];exact l1
    ·rw[←h.rest _ k2.1 k2.2.1];exact l2
 ·obtain⟨L,g1,g2⟩:=hr.glob g hg;exact⟨L,hle _ _ g1,g2⟩
 ·have e2:=h.size;rcases hb with hb|hb
  ·exact hκold b hb
  ·simp only[κ];rw[if_neg (by omega),if_neg (by omega)]
 ·rcases cases3 b L h2 hL with⟨i,hi,g1,_,_⟩|⟨g,_,_⟩|⟨i,hi,hi',g1,g2⟩
  ·have:=h.old i hi;omega
  ·omega
  ·rcases hs.new i L hi hi' g2 with g|⟨b0,L0,q1,q2,q3,q4⟩
   ·exact .inl g
   ·simp only[Ren.sub]at q2;split at q2
    ·rename_i q1;exact .inr ⟨ρ b0,L0,h.old b0 q1,q2,(h.sim b0 q1).own q3,q4⟩
    ·simp at q2
 ·by_cases hx:∃i,A i=true/\ρ i=b
  ·obtain⟨i,hi,rfl⟩:=hx;have hi0:=h.sees i hi;rcases h.emb i (by omega) (.inl hi)with g|g
   ·rw[g]at ho;simp[BI.own]at ho
   ·exact(h.sim i hi).own (hs.ownk i hi0 (g.own ho))
  ·rw[h.rest b hb (λi hi e=>hx ⟨i,hi,e⟩)]at ho;exact ho
end Go.DI
