/-
  COrc: the oracle of the compiler's laws: what hangs on the package variable alone.
-/
import Derived.Test.YtadioopbehiakaaDoorF13
import Derived.Test.YtadioopbehiakaaDoorF25
import Derived.Test.YtadioopbehiakaaDoorF26
import Derived.Test.YtadioopbehiakaaDoorF28
import Derived.Test.YtadioopbehiakaaDoorF09
import Derived.Carry
import Derived.ChangeArms
import Derived.OpenShut
import Derived.ChangeShapes
import Derived.Test.YtadioopbehiakaaDoorF22
import Derived.Test.YtadioopbehiakaaDoorRows
set_option linter.all false
set_option linter.unusedVariables false
set_option linter.unusedSimpArgs false
namespace Go.Proofs.YtadioopbehiakaaDoor
open Go Go.DI Go.DI.Kit Go.Proofs Go.Cmp
noncomputable section
def freeQ : Value → Bool
  | .int _ _ => true
  | .bool _ => true
  | _ => false
def freeA : Value → Bool
  | .agg a => a.toList.all freeQ
  | v => freeQ v
def freeT : Value → Bool
  | .tuple a => a.toList.all freeA
  | v => freeA v
theorem free_Q {v : Value} (h : freeQ v = true) : Free v := by
  cases v <;> simp [freeQ] at h
  · exact free_bool _
  · exact free_int _ _
theorem free_A {v : Value} (h : freeA v = true) : Free v := by
  unfold freeA at h
  split at h
  · exact free_agg fun x hx => free_Q (List.all_eq_true.1 h x hx)
  · exact free_Q h
theorem free_T {v : Value} (h : freeT v = true) : Free v := by
  unfold freeT at h
  split at h
  · exact free_tuple fun x hx => free_A (List.all_eq_true.1 h x hx)
  · exact free_A h
def oC : Orc := fun f a M =>
  if f = 5 then runG gl (callD Tryd.prog kp 1 200) f a M
  else if f = 53 then runG gl (callO Tryd.prog kp 1 oR 200) f a M
  else if f = 34 ∨ f = 40 ∨ f = 41 ∨ f = 45 ∨ f = 52 then runG gl (callD Tryd.prog kp 1 20) f a M
  else none
theorem oC_5 (a : List Value) (M : Mem) : oC 5 a M = runG gl (callD Tryd.prog kp 1 200) 5 a M := if_pos rfl
theorem oC_53 (a : List Value) (M : Mem) : oC 53 a M = runG gl (callO Tryd.prog kp 1 oR 200) 53 a M := by
  unfold oC; rw [if_neg (by decide), if_pos rfl]
theorem oC_20 {f : FuncId} (h : f = 34 ∨ f = 40 ∨ f = 41 ∨ f = 45 ∨ f = 52) (a : List Value) (M : Mem) : oC f a M = runG gl (callD Tryd.prog kp 1 20) f a M := by
  unfold oC
  rw [if_neg (by rcases h with rfl | rfl | rfl | rfl | rfl <;> decide), if_neg (by rcases h with rfl | rfl | rfl | rfl | rfl <;> decide), if_pos h]
theorem oC_off (f : FuncId) (h : f ∉ [5, 34, 40, 41, 45, 52, 53]) (a : List Value) (M : Mem) : oC f a M = none := by
  simp only [List.mem_cons, List.not_mem_nil, or_false, not_or] at h
  unfold oC
  rw [if_neg h.1, if_neg h.2.2.2.2.2.2, if_neg (by rintro (e | e | e | e | e) <;> simp_all)]
theorem oC_both {B0 : Nat} {f : FuncId} {a : List Value} {M M' : Mem} {v : Value} (h : oC f a M = some (v, M')) : CallOK Tryd.prog B0 1 f a M v M' ∧ Grw M M' := by
  unfold oC at h
  split at h
  · exact runG_ok free_gl (callD_ok hmix hK hng 200) (fun _ _ _ _ _ h => callD_grw 200 _ _ _ _ _ h) h
  split at h
  · exact runG_ok free_gl (callO_ok hmix hK hng oR_ok oR_grw 200) (callO_grw oR_grw 200) h
  split at h
  · exact runG_ok free_gl (callD_ok hmix hK hng 20) (fun _ _ _ _ _ h => callD_grw 20 _ _ _ _ _ h) h
  · cases h
theorem oC_grw : CfGrw oC := fun f a M v M' h => (oC_both (B0 := 0) h).2
theorem oC_fn {f : FuncId} {a : List Value} {M M' : Mem} {v : Value} (h : oC f a M = some (v, M')) : ∃ fn, Tryd.prog.funcs[f]? = some fn ∧ fn.body.isNone = false ∧ (fn.name == "runtime.NumGoroutine") = false := by
  unfold oC at h
  split at h
  · rename_i hf; subst hf; exact hasB (by kernel_rfl)
  split at h
  · rename_i hf; subst hf; exact hasB (by kernel_rfl)
  split at h
  · rename_i hf; rcases hf with rfl | rfl | rfl | rfl | rfl <;> exact hasB (by kernel_rfl)
  · cases h
theorem oC_ok {B0 : Nat} : CfOK Tryd.prog B0 1 oC := ⟨fun f a M v M' h => (oC_grw f a M v M' h).size, fun f a M v M' h => (oC_both h).1, fun f a M v M' h => oC_fn h⟩
theorem pureD {f : FuncId} {a : List Value} {v : Value} {kk : Nat} (hf : ∀ M, oC f a M = runG gl (callD Tryd.prog kp 1 kk) f a M) (h : Y.callK Tryd.prog kp 1 kk f a (mG gl) (fun v m => some (v, m.get 0)) = some (v, .cells false gl)) (ha : a.all freeT = true) (hv : freeT v = true) (hok : okR Tryd.prog f v = true) : Pure oC f a v := fun k M hk ht h1 h0 => by
  obtain ⟨m, c1, c2⟩ := of_tree h
  exact ⟨_, callN_o hk ((hf M).trans (runG_at ht h1 h0 (fun x hx => free_T (List.all_eq_true.1 ha x hx)) c1 (free_T hv) c2)) hok, growM_ext M _⟩
theorem pureR {a : List Value} {v : Value} (h : callKo isR ocR Tryd.prog kp 1 200 53 a (mG gl) (fun v m => some (v, m.get 0)) = some (v, .cells false gl)) (ha : a.all freeT = true) (hv : freeT v = true) (hok : okR Tryd.prog 53 v = true) : Pure oC 53 a v := fun k M hk ht h1 h0 => by
  obtain ⟨m, c1, c2⟩ := of_treeR h
  exact ⟨_, callN_o hk ((oC_53 a M).trans (runG_at ht h1 h0 (fun x hx => free_T (List.all_eq_true.1 ha x hx)) c1 (free_T hv) c2)) hok, growM_ext M _⟩
theorem okM {f : FuncId} (hf : f = 52 ∨ f = 53) (x : Ins) (e : Int) : okR Tryd.prog f (.tuple ⟨[insV x, .int .i64 e]⟩) = true := by
  rcases hf with rfl | rfl <;> kernel_rfl
theorem awakeC : Pure oC 5 [] (.bool true) := pureD (oC_5 _) awake_true rfl rfl (by kernel_rfl)
theorem mkC {w i : Value} {x : Ins} (h : MkS w i x) : Pure oC 52 [w, i] (.tuple ⟨[insV x, .int .i64 0]⟩) := by
  have h52 : (52 : FuncId) = 34 ∨ (52 : FuncId) = 40 ∨ (52 : FuncId) = 41 ∨ (52 : FuncId) = 45 ∨ (52 : FuncId) = 52 := by decide
  cases h with
  | num h =>
    rcases h with ⟨rfl, rfl⟩ | ⟨rfl, rfl⟩ | ⟨rfl, rfl⟩
    · exact pureD (oC_20 h52 _) (t_mkNum11 _) rfl rfl (okM (.inl rfl) _ _)
    · exact pureD (oC_20 h52 _) (t_mkNum11_3 _) rfl rfl (okM (.inl rfl) _ _)
    · exact pureD (oC_20 h52 _) (t_mkNum5 _) rfl rfl (okM (.inl rfl) _ _)
  | regs h =>
    rcases h with ⟨rfl, rfl, rfl⟩ | ⟨rfl, rfl, rfl⟩ | ⟨rfl, rfl, rfl⟩
    · exact pureD (oC_20 h52 _) (t_mkRegs11a) rfl rfl (okM (.inl rfl) _ _)
    · exact pureD (oC_20 h52 _) (t_mkRegs11b) rfl rfl (okM (.inl rfl) _ _)
    · exact pureD (oC_20 h52 _) (t_mkRegs5) rfl rfl (okM (.inl rfl) _ _)
  | low => exact pureD (oC_20 h52 _) (t_mkLow _) rfl rfl (okM (.inl rfl) _ _)
  | exit => exact pureD (oC_20 h52 _) (t_mkExit) rfl rfl (okM (.inl rfl) _ _)
  | const => exact pureD (oC_20 h52 _) (t_mkConst _) rfl rfl (okM (.inl rfl) _ _)
  | load h =>
    rcases h with ⟨rfl, rfl, rfl⟩ | ⟨rfl, rfl, rfl⟩ | ⟨rfl, rfl, rfl⟩ | ⟨rfl | rfl | rfl | rfl, rfl, rfl⟩
    · exact pureD (oC_20 h52 _) (t_mkLd4a _) rfl rfl (okM (.inl rfl) _ _)
    · exact pureD (oC_20 h52 _) (t_mkLd4b _) rfl rfl (okM (.inl rfl) _ _)
    · exact pureD (oC_20 h52 _) (t_mkLd8 _) rfl rfl (okM (.inl rfl) _ _)
    · exact pureD (oC_20 h52 _) (t_mkLd7_1 _) rfl rfl (okM (.inl rfl) _ _)
    · exact pureD (oC_20 h52 _) (t_mkLd7_2 _) rfl rfl (okM (.inl rfl) _ _)
    · exact pureD (oC_20 h52 _) (t_mkLd7_4 _) rfl rfl (okM (.inl rfl) _ _)
    · exact pureD (oC_20 h52 _) (t_mkLd7_8 _) rfl rfl (okM (.inl rfl) _ _)
  | jif h =>
    rcases h with ⟨rfl, rfl⟩ | ⟨rfl, rfl⟩ | ⟨rfl, rfl⟩ | ⟨rfl, rfl⟩
    · exact pureD (oC_20 h52 _) (t_mkIf3 _) rfl rfl (okM (.inl rfl) _ _)
    · exact pureD (oC_20 h52 _) (t_mkIf5 _) rfl rfl (okM (.inl rfl) _ _)
    · exact pureD (oC_20 h52 _) (t_mkIf10 _) rfl rfl (okM (.inl rfl) _ _)
    · exact pureD (oC_20 h52 _) (t_mkIf2 _) rfl rfl (okM (.inl rfl) _ _)
  | jifR h =>
    rcases h with rfl | rfl
    · exact pureD (oC_20 h52 _) (t_mkIfR10) rfl rfl (okM (.inl rfl) _ _)
    · exact pureD (oC_20 h52 _) (t_mkIfR2) rfl rfl (okM (.inl rfl) _ _)
  | goto => exact pureD (oC_20 h52 _) (t_mkGoto) rfl rfl (okM (.inl rfl) _ _)
  | swap h =>
    rcases h with rfl | rfl | rfl
    · exact pureD (oC_20 h52 _) (t_mkSw2) rfl rfl (okM (.inl rfl) _ _)
    · exact pureD (oC_20 h52 _) (t_mkSw4) rfl rfl (okM (.inl rfl) _ _)
    · exact pureD (oC_20 h52 _) (t_mkSw8) rfl rfl (okM (.inl rfl) _ _)
theorem rkC {w i : Value} {x : Ins} (h : MkS w i x) : Pure oC 53 [w, i] (.tuple ⟨[insV x, .int .i64 0]⟩) := by
  cases h with
  | num h =>
    rcases h with ⟨rfl, rfl⟩ | ⟨rfl, rfl⟩ | ⟨rfl, rfl⟩
    · exact pureR (t_rkNum11 _) rfl rfl (okM (.inr rfl) _ _)
    · exact pureR (t_rkNum11_3 _) rfl rfl (okM (.inr rfl) _ _)
    · exact pureR (t_rkNum5 _) rfl rfl (okM (.inr rfl) _ _)
  | regs h =>
    rcases h with ⟨rfl, rfl, rfl⟩ | ⟨rfl, rfl, rfl⟩ | ⟨rfl, rfl, rfl⟩
    · exact pureR (t_rkRegs11a) rfl rfl (okM (.inr rfl) _ _)
    · exact pureR (t_rkRegs11b) rfl rfl (okM (.inr rfl) _ _)
    · exact pureR (t_rkRegs5) rfl rfl (okM (.inr rfl) _ _)
  | low => exact pureR (t_rkLow _) rfl rfl (okM (.inr rfl) _ _)
  | exit => exact pureR (t_rkExit) rfl rfl (okM (.inr rfl) _ _)
  | const => exact pureR (t_rkConst _) rfl rfl (okM (.inr rfl) _ _)
  | load h =>
    rcases h with ⟨rfl, rfl, rfl⟩ | ⟨rfl, rfl, rfl⟩ | ⟨rfl, rfl, rfl⟩ | ⟨rfl | rfl | rfl | rfl, rfl, rfl⟩
    · exact pureR (t_rkLd4a _) rfl rfl (okM (.inr rfl) _ _)
    · exact pureR (t_rkLd4b _) rfl rfl (okM (.inr rfl) _ _)
    · exact pureR (t_rkLd8 _) rfl rfl (okM (.inr rfl) _ _)
    · exact pureR (t_rkLd7_1 _) rfl rfl (okM (.inr rfl) _ _)
    · exact pureR (t_rkLd7_2 _) rfl rfl (okM (.inr rfl) _ _)
    · exact pureR (t_rkLd7_4 _) rfl rfl (okM (.inr rfl) _ _)
    · exact pureR (t_rkLd7_8 _) rfl rfl (okM (.inr rfl) _ _)
  | jif h =>
    rcases h with ⟨rfl, rfl⟩ | ⟨rfl, rfl⟩ | ⟨rfl, rfl⟩ | ⟨rfl, rfl⟩
    · exact pureR (t_rkIf3 _) rfl rfl (okM (.inr rfl) _ _)
    · exact pureR (t_rkIf5 _) rfl rfl (okM (.inr rfl) _ _)
    · exact pureR (t_rkIf10 _) rfl rfl (okM (.inr rfl) _ _)
    · exact pureR (t_rkIf2 _) rfl rfl (okM (.inr rfl) _ _)
  | jifR h =>
    rcases h with rfl | rfl
    · exact pureR (t_rkIfR10) rfl rfl (okM (.inr rfl) _ _)
    · exact pureR (t_rkIfR2) rfl rfl (okM (.inr rfl) _ _)
  | goto => exact pureR (t_rkGoto) rfl rfl (okM (.inr rfl) _ _)
  | swap h =>
    rcases h with rfl | rfl | rfl
    · exact pureR (t_rkSw2) rfl rfl (okM (.inr rfl) _ _)
    · exact pureR (t_rkSw4) rfl rfl (okM (.inr rfl) _ _)
    · exact pureR (t_rkSw8) rfl rfl (okM (.inr rfl) _ _)
theorem orqC : Orq oC where
  off := oC_off
  mkP h := ⟨0, mkC h⟩
  mkR h := ⟨0, rkC h⟩
  most h := by
    rcases h with rfl | rfl | rfl | rfl
    · exact pureD (oC_20 (by decide) _) t_most1 rfl rfl (by kernel_rfl)
    · exact pureD (oC_20 (by decide) _) t_most2 rfl rfl (by kernel_rfl)
    · exact pureD (oC_20 (by decide) _) t_most4 rfl rfl (by kernel_rfl)
    · exact pureD (oC_20 (by decide) _) t_most8 rfl rfl (by kernel_rfl)
  small n := by
    have h := t_small n
    by_cases hn : n < 2147483648
    · rw [ltF_t hn] at h
      rw [decide_eq_true hn]
      exact pureD (oC_20 (by decide) _) h rfl rfl (by kernel_rfl)
    · rw [ltF_f hn] at h
      rw [decide_eq_false hn]
      exact pureD (oC_20 (by decide) _) h rfl rfl (by kernel_rfl)
  full h := by
    rcases h with rfl | rfl | rfl | rfl
    · exact pureD (oC_20 (by decide) _) t_Full1 rfl rfl (by kernel_rfl)
    · exact pureD (oC_20 (by decide) _) t_Full2 rfl rfl (by kernel_rfl)
    · exact pureD (oC_20 (by decide) _) t_Full4 rfl rfl (by kernel_rfl)
    · exact pureD (oC_20 (by decide) _) t_Full8 rfl rfl (by kernel_rfl)
  full2 h := by
    rcases h with rfl | rfl | rfl | rfl
    · exact pureD (oC_20 (by decide) _) t_full1 rfl rfl (by kernel_rfl)
    · exact pureD (oC_20 (by decide) _) t_full2 rfl rfl (by kernel_rfl)
    · exact pureD (oC_20 (by decide) _) t_full4 rfl rfl (by kernel_rfl)
    · exact pureD (oC_20 (by decide) _) t_full8 rfl rfl (by kernel_rfl)
end
end Go.Proofs.YtadioopbehiakaaDoor
namespace Go.DI
open Go.RowKit Go.ChangeShapes Go.WideShapes
inductive Dt where
  | bo (b : Bool)
  | int (k : IntKind) (n : Int)
  | str (s : ByteArray)
  | nil
  | sl (l : List Dt) (cap : Nat)
  | ag (l : List Dt)
mutual
def Rep (m : Mem) : Dt → List Value → Prop
  | .bo b, cs => cs = [.bool b]
  | .int k n, cs => cs = [.int k n]
  | .str s, cs => cs = [.string s]
  | .nil, cs => cs = [.slice none 0 0]
  | .sl l cap, cs => ∃ b sp c, cs = [.slice (some ⟨b, 0, sp⟩) l.length cap] ∧ b < m.size ∧ m.get b = .cells false c ∧ Reps m l c ∧ (sp = none ∨ l = [] ∧ cap = 0)
  | .ag l, cs => Reps m l cs
def Reps (m : Mem) : List Dt → List Value → Prop
  | [], cs => cs = []
  | d :: l, cs => ∃ c1 c2, cs = c1 ++ c2 ∧ Rep m d c1 ∧ Reps m l c2
end
def all2 {α β : Type} (R : α → β → Prop) : List α → List β → Prop
  | [], [] => True
  | a :: l, b :: l' => R a b ∧ all2 R l l'
  | _, _ => False
theorem all2_nil {α β : Type} {R : α → β → Prop} {l' : List β} (h : all2 R [] l') : l' = [] := by cases l' <;> simp_all [all2]
theorem all2_cons {α β : Type} {R : α → β → Prop} {a : α} {l : List α} {l' : List β} (h : all2 R (a :: l) l') : ∃ b t, l' = b :: t ∧ R a b ∧ all2 R l t := by
  cases l' with
  | nil => exact h.elim
  | cons b t => exact ⟨b, t, rfl, h.1, h.2⟩
theorem all2_replicate {α β : Type} {R : α → β → Prop} {a : α} : ∀ {n : Nat} {l : List β}, all2 R (List.replicate n a) l → l.length = n ∧ ∀ x ∈ l, R a x
  | 0, l, h => by rw [List.replicate_zero] at h; rw [all2_nil h]; simp
  | n + 1, l, h => by
    rw [List.replicate_succ] at h
    obtain ⟨b, t, rfl, h1, h2⟩ := all2_cons h
    obtain ⟨g1, g2⟩ := all2_replicate h2
    refine ⟨by simp [g1], fun x hx => ?_⟩
    rcases List.mem_cons.1 hx with rfl | hx
    · exact h1
    · exact g2 x hx
section
variable {P : Program}
def Typed (P : Program) : Nat → TypeId → Dt → Prop
  | 0, _, _ => False
  | n + 1, t, d => match P.underlying t with
    | some .bool => ∃ b, d = .bo b
    | some (.int k) => ∃ x, d = .int k x ∧ (Lit.int k x).wf = true
    | some .string => ∃ s, d = .str s ∧ s.size ≤ maxLen
    | some (.slice e) => d = .nil ∨ ∃ l cap, d = .sl l cap ∧ l.length ≤ cap ∧ cap ≤ maxLen ∧ ∀ x ∈ l, Typed P n e x
    | some (.struct fs) => ∃ l, d = .ag l ∧ all2 (fun f x => Typed P n f x) (fs.toList.map (·.type)) l
    | some (.array k e) => ∃ l, d = .ag l ∧ l.length = k ∧ ∀ x ∈ l, Typed P n e x
    | _ => False
def contig (P : Program) (tot : Nat) : Nat → List Field → Bool
  | off, [] => Nat.beq off tot
  | off, f :: l => Nat.beq f.offset off && contig P tot (off + P.cellsOf f.type) l
def dataT (P : Program) : Nat → TypeId → Bool
  | 0, _ => false
  | n + 1, t => match P.underlying t with
    | some .bool => true
    | some (.int _) => true
    | some .string => true
    | some (.slice e) => Nat.blt 0 (P.cellsOf e) && dataT P n e
    | some (.struct fs) => (fs.toList.all fun f => dataT P n f.type) && contig P (P.cellsOf t) 0 fs.toList
    | some (.array k e) => dataT P n e && Nat.beq (P.cellsOf t) (k * P.cellsOf e)
    | _ => false
structure R0 (G B0 : Nat) (ι : Ren) (m : Mem) (w : World) : Prop where
  rel : Rel B0 G ι m w
  fresh : ∀ b, m.size ≤ b → ι b = none
  lo : G ≤ m.size
structure MLe (ι ι' : Ren) (m m' : Mem) : Prop where
  ren : ι.le ι'
  size : m.size ≤ m'.size
  get : ∀ b, b < m.size → m'.get b = m.get b
theorem MLe.refl (ι : Ren) (m : Mem) : MLe ι ι m m := ⟨fun _ _ h => h, Nat.le_refl _, fun _ _ => rfl⟩
theorem MLe.trans {ι ι₁ ι₂ : Ren} {m m₁ m₂ : Mem} (h : MLe ι ι₁ m m₁) (k : MLe ι₁ ι₂ m₁ m₂) : MLe ι ι₂ m m₂ :=
  ⟨fun b L hb => k.ren _ _ (h.ren _ _ hb), Nat.le_trans h.size k.size, fun b hb => (k.get b (Nat.lt_of_lt_of_le hb h.size)).trans (h.get b hb)⟩
mutual
theorem Rep.ext {ι ι' : Ren} {m m' : Mem} (e : MLe ι ι' m m') : ∀ (d : Dt) (cs : List Value), Rep m d cs → Rep m' d cs
  | .bo _, _, h => by simpa only [Rep] using h
  | .int _ _, _, h => by simpa only [Rep] using h
  | .str _, _, h => by simpa only [Rep] using h
  | .nil, _, h => by simpa only [Rep] using h
  | .sl l cap, cs, h => by
    simp only [Rep] at h ⊢
    obtain ⟨b, sp, c, h1, h2, h3, h4, h5⟩ := h
    exact ⟨b, sp, c, h1, Nat.lt_of_lt_of_le h2 e.size, (e.get b h2).trans h3, Reps.ext e l c h4, h5⟩
  | .ag l, cs, h => by
    simp only [Rep] at h ⊢
    exact Reps.ext e l cs h
theorem Reps.ext {ι ι' : Ren} {m m' : Mem} (e : MLe ι ι' m m') : ∀ (l : List Dt) (cs : List Value), Reps m l cs → Reps m' l cs
  | [], _, h => by simpa only [Reps] using h
  | d :: l, cs, h => by
    simp only [Reps] at h ⊢
    obtain ⟨c1, c2, h1, h2, h3⟩ := h
    exact ⟨c1, c2, h1, Rep.ext e d c1 h2, Reps.ext e l c2 h3⟩
end
theorem R0.push {G B0 : Nat} {ι : Ren} {m : Mem} {w : World} (h : R0 G B0 ι m w) (c : List Value) (L : Loc) (hL : L.block < B0) (hb : BlkRel B0 ι (.cells false c) L w) :
    R0 G B0 (fun b => if b = m.size then some L else ι b) (m.push (.cells false c)) w ∧ MLe ι (fun b => if b = m.size then some L else ι b) m (m.push (.cells false c)) := by
  have hn := h.fresh m.size (Nat.le_refl _)
  have hle : ι.le (fun b => if b = m.size then some L else ι b) := by
    intro b L' hb
    have : b ≠ m.size := by intro e; rw [e, hn] at hb; cases hb
    simp [this, hb]
  have hr := h.rel
  refine ⟨⟨⟨fun b L' hb' hL' => ?_, fun b₁ b₂ L₁ L₂ h1 h2 h3 h4 l1 l2 g0 e => ?_, hr.floor, fun g hg => (by obtain ⟨L', h1, h2⟩ := hr.glob g hg; have := h.lo; exact ⟨L', by simp [show g ≠ m.size by omega, h1], h2⟩), fun b hb' => ?_⟩, fun b hb' => ?_, by have := h.lo; simp; omega⟩, ⟨hle, by simp, fun b hb' => Mem.get_push_ne _ (by omega) _⟩⟩
  · rw [Mem.get_push]
    by_cases e : b = m.size
    · subst e; simp at hL'; subst hL'; simpa using hb.mono hle rfl
    · simp only [e, if_false] at hL' ⊢
      simp at hb'
      exact (hr.blk b L' (by omega) hL').mono hle rfl
  · simp at h1 h2
    by_cases e1 : b₁ = m.size
    · simp [e1] at h3; subst h3; omega
    · by_cases e2 : b₂ = m.size
      · simp [e2] at h4; subst h4; omega
      · simp [e1] at h3; simp [e2] at h4
        rw [Mem.get_push_ne _ e1] at l1
        rw [Mem.get_push_ne _ e2] at l2
        exact hr.inj b₁ b₂ L₁ L₂ (by omega) (by omega) h3 h4 l1 l2 g0 e
  · simp at hb'; rw [Mem.get_push_ne _ (by omega)]; exact hr.top b (by omega)
  · simp at hb'
    have : b ≠ m.size := by omega
    simp only [this, if_false]
    exact h.fresh b (by omega)
theorem R0.blank {G B0 : Nat} {ι : Ren} {m : Mem} {w : World} (h : R0 G B0 ι m w) : R0 G B0 ι (m.push (.cells false [])) w ∧ MLe ι ι m (m.push (.cells false [])) := by
  have hn := h.fresh m.size (Nat.le_refl _)
  have hr := h.rel
  refine ⟨⟨⟨fun b L' hb' hL' => ?_, fun b₁ b₂ L₁ L₂ h1 h2 h3 h4 l1 l2 g0 e => ?_, hr.floor, fun g hg => hr.glob g hg, fun b hb' => ?_⟩, fun b hb' => h.fresh b (by simp at hb'; omega), by have := h.lo; simp; omega⟩, ⟨fun _ _ h => h, by simp, fun b hb' => Mem.get_push_ne _ (by omega) _⟩⟩
  · have e : b ≠ m.size := by intro e; rw [e, hn] at hL'; cases hL'
    simp at hb'
    rw [Mem.get_push_ne _ e]
    exact hr.blk b L' (by omega) hL'
  · have e1 : b₁ ≠ m.size := by intro e; rw [e, hn] at h3; cases h3
    have e2 : b₂ ≠ m.size := by intro e; rw [e, hn] at h4; cases h4
    simp at h1 h2
    rw [Mem.get_push_ne _ e1] at l1
    rw [Mem.get_push_ne _ e2] at l2
    exact hr.inj b₁ b₂ L₁ L₂ (by omega) (by omega) h3 h4 l1 l2 g0 e
  · simp at hb'; rw [Mem.get_push_ne _ (by omega)]; exact hr.top b (by omega)
theorem R0.start1 {w : World} {gl : List Value} {rc : Array Value} {e : TypeId} {fr : Nat × Nat} (h : w.heap[0]? = some (.cells rc e fr)) (hl : gl.length ≤ rc.size) (hc : ∀ (i : Nat) (v : Value), gl[i]? = some v → rc[i]? = some v ∧ ∀ ι, VRel ι v v) :
    R0 1 w.heap.size (fun b => if b = 0 then some ⟨0, 0, rc.size⟩ else none) (Kit.mG gl) w := by
  refine ⟨⟨fun b L hb hL => ?_, fun b₁ b₂ L₁ L₂ h1 h2 _ _ _ _ _ _ => ?_, Nat.le_refl _, fun g hg => ?_, Kit.mG_top gl⟩, fun b hb => ?_, by rw [Kit.mG_size]; exact Nat.le_refl _⟩
  · rw [Kit.mG_size] at hb
    obtain rfl : b = 0 := by omega
    rw [Kit.mG_get]
    simp at hL
    subst hL
    refine ⟨rc, e, fr, h, rfl, by simpa using hl, fun i v hv => ?_, fun ho => by cases ho⟩
    obtain ⟨q1, q2⟩ := hc i v hv
    exact ⟨v, by simpa using q1, q2 _⟩
  · rw [Kit.mG_size] at h1 h2; omega
  · obtain rfl : g = 0 := by omega
    exact ⟨⟨0, 0, rc.size⟩, by simp, rfl, rfl⟩
  · rw [Kit.mG_size] at hb
    simp [show b ≠ 0 by omega]
inductive DRel {H : Type} : Dt → DataW H → Prop
  | bo (b : Bool) : DRel (.bo b) (.lit (.bool b))
  | int (k : IntKind) (n : Int) : DRel (.int k n) (.lit (.int k n))
  | str (s : ByteArray) : DRel (.str s) (.lit (.string s.data.toList))
  | nil : DRel .nil .nil
  | sl {l : List Dt} {cap : Nat} {elems rest : List (DataW H)} (hl : l.length = elems.length) (h : ∀ (i : Nat) (x : Dt) (y : DataW H), l[i]? = some x → elems[i]? = some y → DRel x y) : DRel (.sl l cap) (.slice elems rest)
  | ag {l : List Dt} {parts : List (DataW H)} (hl : l.length = parts.length) (h : ∀ (i : Nat) (x : Dt) (y : DataW H), l[i]? = some x → parts[i]? = some y → DRel x y) : DRel (.ag l) (.agg parts)
section
variable {H : Type} {enc : TypeId × Value → H} {w : World} {G B0 : Nat}
def Bound (B0 : Nat) (ps : List MemPlace) : Prop := ∀ p ∈ ps, p.block < B0
def Imp (G : Nat) (P : Program) (w : World) (B0 n : Nat) (t : TypeId) (cs : List Value × DataW H) : Prop :=
  ∀ (ι : Ren) (m : Mem), R0 G B0 ι m w → ∃ d ι' m' c', Typed P n t d ∧ DRel d cs.2 ∧ Rep m' d c' ∧ VRels ι' c' cs.1 ∧ R0 G B0 ι' m' w ∧ MLe ι ι' m m'
theorem imp_seq {n : Nat} : ∀ (ts : List TypeId) (css : List (List Value × DataW H)), all2 (fun t cs => Imp G P w B0 n t cs) ts css → ∀ (ι : Ren) (m : Mem), R0 G B0 ι m w →
    ∃ l ι' m' c', all2 (fun t d => Typed P n t d) ts l ∧ (l.length = css.length ∧ ∀ (i : Nat) (x : Dt) (y : List Value × DataW H), l[i]? = some x → css[i]? = some y → DRel x y.2) ∧ Reps m' l c' ∧ VRels ι' c' (css.map (·.1)).flatten ∧ R0 G B0 ι' m' w ∧ MLe ι ι' m m'
  | [], css, h, ι, m, hr => by
    rw [all2_nil h]
    exact ⟨[], ι, m, [], trivial, ⟨rfl, fun i x y hx => by simp at hx⟩, by simp [Reps], .nil, hr, MLe.refl _ _⟩
  | t :: ts, css, h, ι, m, hr => by
    obtain ⟨cs, css', rfl, h1, h2⟩ := all2_cons h
    obtain ⟨d, ι1, m1, c1, k1, kd, k2, k3, k4, k5⟩ := h1 ι m hr
    obtain ⟨l, ι2, m2, c2, g1, gd, g2, g3, g4, g5⟩ := imp_seq ts css' h2 ι1 m1 k4
    refine ⟨d :: l, ι2, m2, c1 ++ c2, ⟨k1, g1⟩, ⟨by simp [gd.1], fun i x y hx hy => ?_⟩, ?_, ?_, g4, k5.trans g5⟩
    · cases i with
      | zero => simp at hx hy; subst hx; subst hy; exact kd
      | succ i => exact gd.2 i x y (by simpa using hx) (by simpa using hy)
    · simp only [Reps]; exact ⟨c1, c2, rfl, Rep.ext g5 d c1 k2, g2⟩
    · rw [List.map_cons, List.flatten_cons]; exact (VRels.mono g5.ren k3).append g3
def Cells (w : World) (a : Addr) (l : List Value) : Prop := ∀ i, i < l.length → w.cell? (a.add i) = l[i]?
theorem Addr.add_block (a : Addr) (i : Nat) : (a.add i).block = a.block := by unfold Addr.add; split <;> rfl
theorem Addr.add_off (a : Addr) (i : Nat) : (a.add i).off = a.off + i := by
  unfold Addr.add
  split
  · rename_i h; simp [h]
  · rfl
theorem Addr.add_add (a : Addr) (i j : Nat) : (a.add i).add j = a.add (i + j) := by
  unfold Addr.add
  by_cases hi : i = 0
  · subst hi; simp
  · by_cases hj : j = 0
    · subst hj; simp [hi]
    · simp [hi, hj, Nat.add_assoc]
theorem Cells.append {a : Addr} {l l' : List Value} (h : Cells w a l) (k : Cells w (a.add l.length) l') : Cells w a (l ++ l') := by
  intro i hi
  rcases Nat.lt_or_ge i l.length with h1 | h1
  · rw [List.getElem?_append_left h1]; exact h i h1
  · rw [List.getElem?_append_right h1, ← k (i - l.length) (by simp at hi; omega), Addr.add_add, show l.length + (i - l.length) = i by omega]
theorem range_flat {a : Addr} {sz : Nat} (ch : Nat → List Value) : ∀ (n : Nat), (∀ i, i < n → (ch i).length = sz ∧ Cells w (a.add (i * sz)) (ch i)) → ((List.range n).map ch).flatten.length = n * sz ∧ Cells w a ((List.range n).map ch).flatten
  | 0, h => ⟨by simp, fun i hi => by simp at hi⟩
  | n + 1, h => by
    obtain ⟨h1, h2⟩ := range_flat ch n (fun i hi => h i (by omega))
    obtain ⟨h3, h4⟩ := h n (by omega)
    rw [List.range_succ, List.map_append, List.flatten_append]
    refine ⟨by simp [h1, h3, Nat.succ_mul], h2.append ?_⟩
    rw [h1]; simpa using h4
theorem cell_block {a : Addr} {v : Value} (h : w.cell? a = some v) : a.spot = none ∧ ∃ rc e fr, w.heap[a.block]? = some (.cells rc e fr) ∧ rc[a.off]? = some v := by
  unfold World.cell? at h
  split at h
  · rename_i c e fr hc
    split at h
    · cases h
    · rename_i hs
      refine ⟨by simpa using hs, c, e, fr, hc, h⟩
  · cases h
theorem drop_part (l : List Value) (off n tot : Nat) (h : l.length = tot) : (l.drop off).take n ++ l.drop (off + n) = l.drop off := by
  rw [← List.drop_drop, List.take_append_drop]
theorem fields_flat {cs : List Value} : ∀ (fs : List Field) (off : Nat), contig P cs.length off fs = true → off ≤ cs.length → (fs.map fun f => (cs.drop f.offset).take (P.cellsOf f.type)).flatten = cs.drop off
  | [], off, h, _ => by
    have := Nat.eq_of_beq_eq_true h
    subst this
    simp
  | f :: fs, off, h, ho => by
    simp only [contig, Bool.and_eq_true] at h
    have h1 := Nat.eq_of_beq_eq_true h.1
    have hle : off + P.cellsOf f.type ≤ cs.length := by
      clear ho h1
      have : ∀ (l : List Field) (o : Nat), contig P cs.length o l = true → o ≤ cs.length := by
        intro l
        induction l with
        | nil => intro o h; exact Nat.le_of_eq (Nat.eq_of_beq_eq_true h)
        | cons g l ih => intro o h; simp only [contig, Bool.and_eq_true] at h; have := ih _ h.2; omega
      exact this _ _ h.2
    have ih := fields_flat fs (off + P.cellsOf f.type) h.2 hle
    rw [List.map_cons, List.flatten_cons, ih, h1]
    exact drop_part cs off _ _ rfl
theorem chunks_flat {cs : List Value} {sz : Nat} : ∀ (n off : Nat), cs.length = off + n * sz → ((List.range n).map fun i => (cs.drop (off + i * sz)).take sz).flatten = cs.drop off
  | 0, off, h => by simp at h; subst h; simp
  | n + 1, off, h => by
    have ih := chunks_flat (cs := cs) (sz := sz) n (off + sz) (by rw [h, Nat.succ_mul]; omega)
    rw [List.range_succ_eq_map, List.map_cons, List.flatten_cons, List.map_map]
    have e : (List.range n).map ((fun i => (cs.drop (off + i * sz)).take sz) ∘ Nat.succ) = (List.range n).map fun i => (cs.drop (off + sz + i * sz)).take sz := by
      apply List.map_congr_left
      intro i _
      simp only [Function.comp]
      congr 2
      rw [Nat.succ_mul]; omega
    rw [e, ih]
    simp only [Nat.zero_mul, Nat.add_zero]
    exact drop_part cs off _ _ rfl
theorem all2_of_get {α β : Type} {R : α → β → Prop} : ∀ {l : List α} {l' : List β}, l.length = l'.length → (∀ (i : Nat) (a : α) (b : β), l[i]? = some a → l'[i]? = some b → R a b) → all2 R l l'
  | [], [], _, _ => trivial
  | [], _ :: _, h, _ => by simp at h
  | _ :: _, [], h, _ => by simp at h
  | a :: l, b :: l', h, k => ⟨k 0 a b rfl rfl, all2_of_get (by simpa using h) fun i x y hx hy => k (i + 1) x y (by simpa using hx) (by simpa using hy)⟩
set_option maxHeartbeats 1000000 in
theorem imp_trod : ∀ (n : Nat) (t : TypeId), dataT P n t = true → ∀ (fuel : Nat) (cs : List Value) (x : DataW H × List MemPlace), DataW.trod enc P w 0 (fun _ => true) true fuel t cs = some x → Bound B0 x.2 → Imp G P w B0 n t (cs, x.1)
  | 0, t, hd, _, _, _, _, _ => by simp [dataT] at hd
  | n + 1, t, hd, fuel, cs, x, h, hB => by
    intro ι m hr
    unfold dataT at hd
    split at hd
    · rename_i ht
      obtain ⟨b, rfl, rfl⟩ := DataW.trod_bool ht h
      exact ⟨.bo b, ι, m, [.bool b], by simp [Typed, ht], .bo b, by simp [Rep], .cons (.bool _) .nil, hr, MLe.refl _ _⟩
    · rename_i k ht
      obtain ⟨z, rfl, rfl, hw⟩ := DataW.trod_int ht h
      exact ⟨.int k z, ι, m, [.int k z], by simp [Typed, ht, hw], .int k z, by simp [Rep], .cons (.int _ _) .nil, hr, MLe.refl _ _⟩
    · rename_i ht
      obtain ⟨s, rfl, rfl, hs⟩ := DataW.trod_string ht h
      exact ⟨.str s, ι, m, [.string s], by simp [Typed, ht, hs], .str s, by simp [Rep], .cons (.string _) .nil, hr, MLe.refl _ _⟩
    · rename_i e ht
      simp only [Bool.and_eq_true] at hd
      have hpos : 0 < P.cellsOf e := by have := hd.1; simpa [Nat.blt_eq] using this
      rcases DataW.trod_slice ht h with ⟨rfl, rfl⟩ | ⟨a, len, cap, elems, rest, fu, _, rfl, rfl, _, hl, hm, hlen, hel, hsp, _⟩
      · exact ⟨.nil, ι, m, [.slice none 0 0], by simp [Typed, ht], .nil, by simp [Rep], .cons (.slc0 _ _) .nil, hr, MLe.refl _ _⟩
      obtain ⟨hrl, hre⟩ := hsp rfl
      have hcell : ∀ i, i < cap → ∃ y, (w.cells? 0 (a.add (i * P.cellsOf e)) (P.cellsOf e)).bind (DataW.trod enc P w 0 (fun _ => true) true fu e) = some y ∧ y ∈ elems ++ rest := by
        intro i hi
        by_cases h1 : i < len
        · rw [hel i h1]
          have h2 : i < elems.length := by omega
          exact ⟨elems[i], List.getElem?_eq_getElem h2, List.mem_append_left _ (List.getElem_mem h2)⟩
        · have h2 : i - len < rest.length := by omega
          have := hre (i - len) (by omega)
          rw [show len + (i - len) = i by omega] at this
          rw [this]
          exact ⟨rest[i - len], List.getElem?_eq_getElem h2, List.mem_append_right _ (List.getElem_mem h2)⟩
      by_cases hc0 : cap = 0
      · subst hc0
        obtain rfl : len = 0 := by omega
        obtain ⟨g1, g2⟩ := hr.blank
        refine ⟨.sl [] 0, ι, _, [.slice (some ⟨m.size, 0, some 1⟩) 0 0], ?_, .sl (by simp [hlen]) (fun i x y hx => by simp at hx), ?_, .cons (.empty _ _ _ _) .nil, g1, g2⟩
        · simp only [Typed, ht]; exact .inr ⟨[], 0, rfl, Nat.le_refl _, Nat.zero_le _, fun x hx => by simp at hx⟩
        · simp only [Rep]; exact ⟨m.size, some 1, [], rfl, by simp, Mem.get_push_same _ _, by simp [Reps], .inr (by simp)⟩
      have hab : a.block < B0 := by
        refine hB (.cell a.block (a.off + 0)) ?_
        refine List.mem_append_left _ ?_
        unfold MemPlace.row
        refine List.mem_map.2 ⟨0, List.mem_range.2 ?_, rfl⟩
        exact Nat.mul_pos (by omega) hpos
      have hchunk : ∀ i, i < cap → ∃ ch y, w.cells? 0 (a.add (i * P.cellsOf e)) (P.cellsOf e) = some ch ∧ ch.length = P.cellsOf e ∧ Cells w (a.add (i * P.cellsOf e)) ch ∧ DataW.trod enc P w 0 (fun _ => true) true fu e ch = some y ∧ y ∈ elems ++ rest := by
        intro i hi
        obtain ⟨y, hy, hmem⟩ := hcell i hi
        obtain ⟨ch, h1, h2⟩ := Option.bind_eq_some_iff.1 hy
        obtain ⟨_, h3, h4⟩ := World.cells?_some h1
        exact ⟨ch, y, h1, h3, fun j hj => h4 j (by omega), h2, hmem⟩
      obtain ⟨ch0, y0, _, z2, z3, _⟩ := hchunk 0 (by omega)
      have hfirst : ∃ v, w.cell? a = some v := by
        have := z3 0 (by omega)
        rw [Addr.add_add] at this
        have e0 : a.add (0 * P.cellsOf e + 0) = a := by simp [Addr.add]
        rw [e0] at this
        rw [this]
        exact ⟨ch0[0]'(by omega), List.getElem?_eq_getElem (by omega)⟩
      obtain ⟨v0, hv0⟩ := hfirst
      obtain ⟨hspot, rc, te, fr, hrc, hoff⟩ := cell_block hv0
      let ch : Nat → List Value := fun i => (w.cells? 0 (a.add (i * P.cellsOf e)) (P.cellsOf e)).getD []
      have hch : ∀ i, i < len → (ch i).length = P.cellsOf e ∧ Cells w (a.add (i * P.cellsOf e)) (ch i) := by
        intro i hi
        obtain ⟨c1, y, h1, h2, h3, _⟩ := hchunk i (by omega)
        simp only [ch, h1, Option.getD_some]
        exact ⟨h2, h3⟩
      have himp : all2 (fun t cs => Imp G P w B0 n t cs) (List.replicate len e) ((List.range len).map fun i => (ch i, (elems.map (·.1)).getD i .nil)) := by
        refine all2_of_get (by simp) fun i t' c1 ht' hc1 => ?_
        have hi : i < len := by
          have := (List.getElem?_eq_some_iff.1 ht').1
          simpa using this
        simp only [List.getElem?_replicate, hi, if_true, Option.some.injEq] at ht'
        subst ht'
        obtain ⟨c2, y, h1, _, _, h4, h5⟩ := hchunk i (by omega)
        simp only [List.getElem?_map, List.getElem?_range hi, Option.map_some, ch, h1, Option.getD_some, Option.some.injEq] at hc1
        subst hc1
        have hy : elems[i]? = some y := by
          have := hel i hi
          rw [h1] at this
          simp only [Option.bind_some, h4] at this
          exact this.symm
        have hyd : (elems.map (·.1)).getD i .nil = y.1 := by simp [List.getD_eq_getElem?_getD, List.getElem?_map, hy]
        rw [hyd]
        refine imp_trod n e hd.2 fu c2 y h4 fun p hp => hB p ?_
        exact List.mem_append_right _ (List.mem_flatMap.2 ⟨y, h5, hp⟩)
      obtain ⟨l, ι1, m1, c1, g1, gd, g2, g3, g4, g5⟩ := imp_seq _ _ himp ι m hr
      have gm : (((List.range len).map fun i => (ch i, (elems.map (·.1)).getD i (.nil : DataW H))).map (·.1)) = (List.range len).map ch := by rw [List.map_map]; rfl
      rw [gm] at g3
      obtain ⟨f1, f2⟩ := range_flat (w := w) (a := a) (sz := P.cellsOf e) ch len hch
      obtain ⟨l1, l2⟩ := all2_replicate g1
      have hlc : c1.length = len * P.cellsOf e := by rw [g3.length, f1]
      have hsz : a.off + len * P.cellsOf e ≤ rc.size := by
        by_cases h0 : len * P.cellsOf e = 0
        · have := (Array.getElem?_eq_some_iff.1 hoff).1
          omega
        · have := f2 (len * P.cellsOf e - 1) (by omega)
          have h3 : len * P.cellsOf e - 1 < ((List.range len).map ch).flatten.length := by omega
          rw [List.getElem?_eq_getElem h3] at this
          obtain ⟨_, rc', _, _, q1, q2⟩ := cell_block this
          have e1 : (a.add (len * P.cellsOf e - 1)).block = a.block := Addr.add_block _ _
          rw [e1, hrc] at q1
          cases q1
          have e2 : (a.add (len * P.cellsOf e - 1)).off = a.off + (len * P.cellsOf e - 1) := Addr.add_off _ _
          rw [e2] at q2
          have := (Array.getElem?_eq_some_iff.1 q2).1
          omega
      have hblk : BlkRel B0 ι1 (.cells false c1) ⟨a.block, a.off, rc.size⟩ w := by
        refine ⟨rc, te, fr, hrc, rfl, by rw [hlc]; exact hsz, fun i v hv => ?_, fun h => by cases h⟩
        obtain ⟨v', hv', hrel⟩ := g3.get hv
        refine ⟨v', ?_, hrel⟩
        have hi : i < ((List.range len).map ch).flatten.length := (List.getElem?_eq_some_iff.1 hv').1
        have := f2 i hi
        rw [hv'] at this
        obtain ⟨_, rc', _, _, q1, q2⟩ := cell_block this
        have e1 : (a.add i).block = a.block := Addr.add_block _ _
        rw [e1, hrc] at q1
        cases q1
        rw [Addr.add_off] at q2
        exact q2
      obtain ⟨k1, k2⟩ := g4.push c1 ⟨a.block, a.off, rc.size⟩ hab hblk
      refine ⟨.sl l cap, _, _, [.slice (some ⟨m1.size, 0, none⟩) len cap], ?_, .sl (by rw [l1]; simp [hlen]) (fun i x y hx hy => ?_), ?_, .cons ?_ .nil, k1, g5.trans k2⟩
      · simp only [Typed, ht]; exact .inr ⟨l, cap, rfl, by omega, hm, l2⟩
      · have hi : i < len := by rw [← l1]; exact (List.getElem?_eq_some_iff.1 hx).1
        have := gd.2 i x (ch i, (elems.map (·.1)).getD i .nil) hx (by simp [List.getElem?_range hi])
        have hyd : (elems.map (·.1)).getD i .nil = y := by simp [List.getD_eq_getElem?_getD, hy]
        rw [hyd] at this; exact this
      · simp only [Rep]; exact ⟨m1.size, none, c1, by rw [l1], by simp, Mem.get_push_same _ _, Reps.ext k2 l c1 g2, .inl rfl⟩
      · have := VRel.slc (ι := fun b => if b = m1.size then some ⟨a.block, a.off, rc.size⟩ else ι1 b) m1.size 0 len cap ⟨a.block, a.off, rc.size⟩ (by simp)
        have ea : (⟨a.block, a.off + 0, none⟩ : Addr) = a := by cases a; simp at hspot; simp [hspot]
        rw [ea] at this
        exact this
    · rename_i fs ht
      simp only [Bool.and_eq_true] at hd
      obtain ⟨xs, fu, _, rfl, hlen, hxl, hx⟩ := DataW.trod_struct ht h
      have himp : all2 (fun t cs => Imp G P w B0 n t cs) (fs.toList.map (·.type)) ((fs.toList.zip (xs.map (·.1))).map fun p => ((cs.drop p.1.offset).take (P.cellsOf p.1.type), p.2)) := by
        refine all2_of_get (by simp [hxl]) fun i t' c1 ht' hc1 => ?_
        rw [List.getElem?_map] at ht' hc1
        obtain ⟨f, hf, rfl⟩ := Option.map_eq_some_iff.1 ht'
        obtain ⟨p, hp, rfl⟩ := Option.map_eq_some_iff.1 hc1
        obtain ⟨hp1, hp2⟩ := List.getElem?_zip_eq_some.1 hp
        rw [hf] at hp1
        obtain rfl : f = p.1 := Option.some.inj hp1
        have hf' : fs[i]? = some p.1 := by simpa using hf
        have hi : i < xs.length := by rw [hxl]; exact (Array.getElem?_eq_some_iff.1 hf').1
        have h1 := hx i p.1 hf'
        rw [List.getElem?_eq_getElem hi] at h1
        rw [List.getElem?_map, List.getElem?_eq_getElem hi] at hp2
        simp only [Option.map_some, Option.some.injEq] at hp2
        rw [← hp2]
        refine imp_trod n p.1.type (List.all_eq_true.1 hd.1 p.1 (List.mem_of_getElem? hf)) fu _ xs[i] h1 fun y hy => hB y ?_
        exact List.mem_flatMap.2 ⟨xs[i], List.getElem_mem hi, hy⟩
      obtain ⟨l, ι1, m1, c1, g1, gd, g2, g3, g4, g5⟩ := imp_seq _ _ himp ι m hr
      have gm : ((fs.toList.zip (xs.map (·.1))).map fun p => ((cs.drop p.1.offset).take (P.cellsOf p.1.type), p.2)).map (·.1) = fs.toList.map fun f => (cs.drop f.offset).take (P.cellsOf f.type) := by
        rw [List.map_map]
        have e : (fs.toList.zip (xs.map (·.1))).map (fun p => p.1) = fs.toList := List.map_fst_zip (by simp [hxl])
        conv => rhs; rw [← e, List.map_map]
        rfl
      rw [gm, fields_flat fs.toList 0 (by rw [hlen]; exact hd.2) (Nat.zero_le _), List.drop_zero] at g3
      refine ⟨.ag l, ι1, m1, c1, ?_, .ag (by rw [gd.1]; simp [hxl]) (fun i x y hx hy => ?_), ?_, g3, g4, g5⟩
      · simp only [Typed, ht]; exact ⟨l, rfl, g1⟩
      · have hi : i < fs.toList.length := by have := (List.getElem?_eq_some_iff.1 hx).1; rw [gd.1] at this; simp at this; simp; omega
        exact gd.2 i x ((cs.drop fs.toList[i].offset).take (P.cellsOf fs.toList[i].type), y) hx (by rw [List.getElem?_map, (List.getElem?_zip_eq_some (z := (fs.toList[i], y))).2 ⟨List.getElem?_eq_getElem hi, hy⟩]; rfl)
      · simp only [Rep]; exact g2
    · rename_i k e ht
      simp only [Bool.and_eq_true] at hd
      obtain ⟨xs, fu, _, rfl, hlen, hxl, hx⟩ := DataW.trod_array ht h
      have himp : all2 (fun t cs => Imp G P w B0 n t cs) (List.replicate k e) ((List.range k).map fun i => ((cs.drop (0 + i * P.cellsOf e)).take (P.cellsOf e), (xs.map (·.1)).getD i .nil)) := by
        refine all2_of_get (by simp) fun i t' c1 ht' hc1 => ?_
        have hi : i < k := by
          have := (List.getElem?_eq_some_iff.1 ht').1
          simpa using this
        simp only [List.getElem?_replicate, hi, if_true, Option.some.injEq] at ht'
        subst ht'
        simp only [List.getElem?_map, List.getElem?_range hi, Option.map_some, Option.some.injEq, Nat.zero_add] at hc1
        subst hc1
        have h1 := hx i hi
        have hi' : i < xs.length := by omega
        rw [List.getElem?_eq_getElem hi'] at h1
        have hyd : (xs.map (·.1)).getD i .nil = xs[i].1 := by simp [List.getD_eq_getElem?_getD, List.getElem?_map, List.getElem?_eq_getElem hi']
        rw [hyd]
        refine imp_trod n e hd.1 fu _ xs[i] h1 fun p hp => hB p ?_
        exact List.mem_flatMap.2 ⟨xs[i], List.getElem_mem hi', hp⟩
      obtain ⟨l, ι1, m1, c1, g1, gd, g2, g3, g4, g5⟩ := imp_seq _ _ himp ι m hr
      obtain ⟨l1, l2⟩ := all2_replicate g1
      have gm : ((List.range k).map fun i => ((cs.drop (0 + i * P.cellsOf e)).take (P.cellsOf e), (xs.map (·.1)).getD i (.nil : DataW H))).map (·.1) = (List.range k).map fun i => (cs.drop (0 + i * P.cellsOf e)).take (P.cellsOf e) := by rw [List.map_map]; rfl
      rw [gm, chunks_flat k 0 (by rw [hlen, Nat.eq_of_beq_eq_true hd.2, Nat.zero_add]), List.drop_zero] at g3
      refine ⟨.ag l, ι1, m1, c1, ?_, .ag (by rw [l1]; simp [hxl]) (fun i x y hx hy => ?_), ?_, g3, g4, g5⟩
      · simp only [Typed, ht]; exact ⟨l, rfl, l1, l2⟩
      · have hi : i < k := by rw [← l1]; exact (List.getElem?_eq_some_iff.1 hx).1
        have := gd.2 i x ((cs.drop (0 + i * P.cellsOf e)).take (P.cellsOf e), (xs.map (·.1)).getD i .nil) hx (by simp [List.getElem?_range hi])
        have hyd : (xs.map (·.1)).getD i .nil = y := by simp [List.getD_eq_getElem?_getD, hy]
        rw [hyd] at this; exact this
      · simp only [Rep]; exact g2
    · cases hd
/-! ### arguments -/
def Arg (P : Program) (m : Mem) (t : TypeId) (d : Dt) (v : Value) : Prop :=
  match aggB P t with
  | some true => ∃ c, v = .agg ⟨c⟩ ∧ Rep m d c
  | _ => Rep m d [v]
def Args (P : Program) (n : Nat) (m : Mem) : List TypeId → List Dt → List Value → Prop
  | [], [], [] => True
  | t :: ts, d :: ds, v :: vs => Typed P n t d ∧ Arg P m t d v ∧ Args P n m ts ds vs
  | _, _, _ => False
theorem Arg.ext {ι ι' : Ren} {m m' : Mem} (e : MLe ι ι' m m') {t : TypeId} {d : Dt} {v : Value} (h : Arg P m t d v) : Arg P m' t d v := by
  unfold Arg at h ⊢
  split
  · rename_i ht
    rw [ht] at h
    obtain ⟨c, h1, h2⟩ := h
    exact ⟨c, h1, Rep.ext e d c h2⟩
  · rename_i ht
    split at h
    · rename_i ht'; exact absurd ht' ht
    · exact Rep.ext e d _ h
def shapeOk (P : Program) (t : TypeId) (v : Value) : Prop := match aggB P t with | some true => ∃ cs, v = .agg cs | _ => v.cells.toList = [v]
theorem shape_of {n : Nat} {t : TypeId} {v : Value} {r : Reach} {b : Nat} (hd : dataT P n t = true) (h : Value.okWide P w r b t v) : shapeOk P t v := by
  cases n with
  | zero => simp [dataT] at hd
  | succ n =>
    unfold dataT at hd
    unfold shapeOk aggB
    unfold Value.okWide at h
    split at hd
    all_goals first
      | (rename_i ht; rw [ht] at h ⊢; simp only at h ⊢; obtain ⟨cs, h1, _⟩ := h; exact ⟨cs, h1⟩)
      | (rename_i ht; rw [ht] at h ⊢; simp only [Cell.okWide, ht] at h; cases v <;> simp_all [Cell.ok, Value.cells])
      | cases hd
theorem imp_args {n : Nat} : ∀ (ts : List TypeId) (vs : List Value) (ds : List (DataW H)) (ps : List MemPlace), (ts.all fun t => dataT P n t) = true → DataW.TrodAll enc P w 0 (fun _ => true) true ts vs ds ps →
    (∀ (j : Nat) t v, ts[j]? = some t → vs[j]? = some v → shapeOk P t v) → Bound B0 ps → ∀ (ι : Ren) (m : Mem), R0 G B0 ι m w →
    ∃ l ι' m' vs', Args P n m' ts l vs' ∧ (l.length = ds.length ∧ ∀ (i : Nat) (x : Dt) (y : DataW H), l[i]? = some x → ds[i]? = some y → DRel x y) ∧ VRels ι' vs' vs ∧ R0 G B0 ι' m' w ∧ MLe ι ι' m m'
  | [], vs, ds, ps, _, h, _, _, ι, m, hr => by
    obtain ⟨rfl, rfl, rfl⟩ := trodAll_nil h
    exact ⟨[], ι, m, [], trivial, ⟨rfl, fun i x y hx => by simp at hx⟩, .nil, hr, MLe.refl _ _⟩
  | t :: ts, vs, ds, ps, hd, h, hs, hB, ι, m, hr => by
    obtain ⟨v, vs', d, ds', p, q, rfl, rfl, rfl, ⟨fuel, h1⟩, h2⟩ := trodAll_cons h
    simp only [List.all_cons, Bool.and_eq_true] at hd
    obtain ⟨d1, ι1, m1, c1, k1, kd, k2, k3, k4, k5⟩ := imp_trod n t hd.1 fuel _ _ h1 (fun x hx => hB x (List.mem_append_left _ hx)) ι m hr
    obtain ⟨l, ι2, m2, vs2, g1, gd, g2, g3, g4⟩ := imp_args ts vs' ds' q hd.2 h2 (fun j t v ht hv => hs (j + 1) t v (by simpa using ht) (by simpa using hv)) (fun x hx => hB x (List.mem_append_right _ hx)) ι1 m1 k4
    have hsh := hs 0 t v rfl rfl
    have key : ∃ v1, Arg P m1 t d1 v1 ∧ VRel ι1 v1 v := by
      unfold shapeOk at hsh
      unfold Arg
      split at hsh
      · rename_i ht
        obtain ⟨cs, rfl⟩ := hsh
        refine ⟨.agg ⟨c1⟩, ⟨c1, rfl, k2⟩, ?_⟩
        have := VRel.agg' (ι := ι1) k3
        simpa [Value.cells] using this
      · rename_i ht
        rw [hsh] at k3
        cases k3 with
        | cons k3 k3' =>
          cases k3'
          rename_i v1
          exact ⟨v1, k2, k3⟩
    obtain ⟨v1, q1, q2⟩ := key
    exact ⟨d1 :: l, ι2, m2, v1 :: vs2, ⟨k1, Arg.ext g4 q1, g1⟩, ⟨by simp [gd.1], fun i x y hx hy => by
      cases i with
      | zero => simp at hx hy; subst hx; subst hy; exact kd
      | succ i => exact gd.2 i x y (by simpa using hx) (by simpa using hy)⟩, .cons (q2.mono g4.ren) g2, g3, k5.trans g4⟩
theorem calls_dataG {K : TypeId → Bool} {o : Orc} (hmix : P.follows .mixedOrders = true) (hK : Plain P K) (hng : NoNG P) (ho : CfOK P w.heap.size G o) (hog : CfGrw o) {n : Nat} {f : FuncId} {ts : List TypeId} {args : Array Value} {ds : List (DataW H)} {ps : List MemPlace} {ι0 : Ren} {mm : Mem}
    (h0 : R0 G w.heap.size ι0 mm w)
    (hd : (ts.all fun t => dataT P n t) = true) (hA : DataW.TrodAll enc P w 0 (fun _ => true) true ts args.toList ds ps) {r : Reach} {b : Nat}
    (hval : ∀ (j : Nat) t v, ts[j]? = some t → args[j]? = some v → Value.okWide P w r b t v) (hB : Bound w.heap.size ps)
    (run : ∀ (m : Mem) (l : List Dt) (vs : List Value), m.top → mm.size ≤ m.size → (∀ b, b < mm.size → m.get b = mm.get b) → Args P n m ts l vs → (l.length = ds.length ∧ ∀ (i : Nat) (x : Dt) (y : DataW H), l[i]? = some x → ds[i]? = some y → DRel x y) → ∃ k m', callN P K G o k f vs m = some (.bool true, m')) :
    Calls P f args w fun e w' => e = .returned (.bool true) ∧ Below w.heap.size w w' := by
  obtain ⟨l, ι, m, vs, h1, hdr, h2, h3, h4⟩ := imp_args ts args.toList ds ps hd hA (fun j t v ht hv => shape_of (List.all_eq_true.1 hd t (List.mem_of_getElem? ht)) (hval j t v ht (by simpa using hv))) hB _ _ h0
  obtain ⟨k, m', hrun⟩ := run m l vs h3.rel.top h4.size h4.get h1 hdr
  have := (callN_ok hmix hK hng ho hog k).ok _ _ _ _ _ hrun ι w args.toList h3.rel (fun b hb _ => h3.fresh b hb) h2
  have ea : args.toList.toArray = args := by simp
  rw [ea] at this
  refine this.mono ?_
  rintro e w' ⟨v', ι', he, hv', hr', hs⟩
  exact ⟨by rw [he, hv'.inv_bool], ⟨hs.os, hs.tape, hs.output, hs.hsize, fun B hB => hs.below h3.rel B hB⟩⟩
theorem trodAll_below (hl : laidOutB P = true) : ∀ {ts : List TypeId} {vs : List Value} {ds : List (DataW H)} {ps : List MemPlace} {W' : World}, (ts.all fun t => P.readableRec t && decide (t < P.types.size)) = true →
    DataW.TrodAll enc P w 0 (fun _ => true) true ts vs ds ps → Below w.heap.size w W' → Bound w.heap.size ps → DataW.TrodAll enc P W' 0 (fun b => decide (b < w.heap.size)) true ts vs ds ps
  | [], vs, ds, ps, W', _, h, _, _ => by
    obtain ⟨rfl, rfl, rfl⟩ := trodAll_nil h
    rfl
  | t :: ts, vs, ds, ps, W', hr, h, hb, hB => by
    obtain ⟨v, vs', d, ds', p, q, rfl, rfl, rfl, h1, h2⟩ := trodAll_cons h
    simp only [List.all_cons, Bool.and_eq_true] at hr
    exact ⟨p, q, Below.trod hl hr.1.1 (of_decide_eq_true hr.1.2) h1 hb (fun x hx => hB x (List.mem_append_left _ hx)),
      trodAll_below hl hr.2 h2 hb (fun x hx => hB x (List.mem_append_right _ hx)), rfl⟩
theorem bound_of : ∀ {ts : List TypeId} {vs : List Value} {ds : List (DataW H)} {ps : List MemPlace}, DataW.TrodAll enc P w 0 (fun _ => true) true ts vs ds ps → Bound w.heap.size ps
  | [], vs, ds, ps, h => by
    obtain ⟨rfl, rfl, rfl⟩ := trodAll_nil h
    intro p hp; simp at hp
  | t :: ts, vs, ds, ps, h => by
    obtain ⟨v, vs', d, ds', p, q, rfl, rfl, rfl, ⟨m, hm⟩, h2⟩ := trodAll_cons h
    intro x hx
    rcases List.mem_append.1 hx with hx | hx
    · exact DataW.trod_lt m _ _ _ hm x hx
    · exact bound_of h2 x hx
end
end
end Go.DI
namespace Go.Proofs.YtadioopbehiakaaDoor
open Go Go.DI Go.DI.Kit Go.Proofs Go.Cmp
noncomputable section
set_option maxRecDepth 100000
theorem typed_int {P : Program} {n : Nat} {t : TypeId} {k : IntKind} (ht : P.underlying t = some (.int k)) {d : Dt} (h : Typed P (n + 1) t d) : ∃ x, d = .int k x ∧ (Lit.int k x).wf = true := by
  simpa only [Typed, ht] using h
theorem typed_bool {P : Program} {n : Nat} {t : TypeId} (ht : P.underlying t = some .bool) {d : Dt} (h : Typed P (n + 1) t d) : ∃ x, d = .bo x := by
  simpa only [Typed, ht] using h
mutual
def wt : Dt → Nat
  | .sl l _ => wtAll l + 1
  | .ag l => wtAll l + 1
  | .bo _ => 1
  | .int _ _ => 1
  | .str _ => 1
  | .nil => 1
def wtAll : List Dt → Nat
  | [] => 0
  | d :: l => wt d + wtAll l
end
set_option maxHeartbeats 2000000 in
theorem test_typed {d : Dt} (h : Typed Tryd.prog 5 54 d) : ∃ t : TestT, TestRng t ∧ wt d = 8 ∧ ∀ (m : Mem) (cs : List Value), Rep m d cs → cs = testC t := by
  unfold Typed at h
  rw [Tryd.underlying54] at h
  obtain ⟨l, rfl, h⟩ := h
  simp only [List.map_cons, List.map_nil] at h
  obtain ⟨d0, l, rfl, h0, h⟩ := all2_cons h
  obtain ⟨d1, l, rfl, h1, h⟩ := all2_cons h
  obtain ⟨d2, l, rfl, h2, h⟩ := all2_cons h
  obtain ⟨d3, l, rfl, h3, h⟩ := all2_cons h
  obtain ⟨d4, l, rfl, h4, h⟩ := all2_cons h
  obtain ⟨d5, l, rfl, h5, h⟩ := all2_cons h
  obtain ⟨d6, l, rfl, h6, h⟩ := all2_cons h
  have hnil := all2_nil h
  subst hnil
  obtain ⟨ne, rfl⟩ := typed_bool Tryd.underlying4 h0
  obtain ⟨ki, rfl, _⟩ := typed_int Tryd.underlying3 h1
  obtain ⟨po, rfl, _⟩ := typed_int Tryd.underlying3 h2
  obtain ⟨si, rfl, _⟩ := typed_int Tryd.underlying3 h3
  obtain ⟨ma, rfl, hm⟩ := typed_int Tryd.underlying51 h4
  obtain ⟨lo, rfl, hl⟩ := typed_int Tryd.underlying51 h5
  obtain ⟨hi, rfl, hh⟩ := typed_int Tryd.underlying51 h6
  refine ⟨⟨ne, ki, po, si, ma, lo, hi⟩, ?_, rfl, fun m cs hc => ?_⟩
  · simp [Lit.wf] at hm hl hh
    have e1 : IntKind.u64.min = 0 := rfl
    have e2 : IntKind.u64.max = 18446744073709551615 := rfl
    rw [e1, e2] at hm hl hh
    exact ⟨⟨by simp only; omega, by simp only; omega⟩, ⟨by simp only; omega, by simp only; omega⟩, ⟨by simp only; omega, by simp only; omega⟩⟩
  · simp only [Rep, Reps] at hc
    obtain ⟨_, _, rfl, rfl, _, _, rfl, rfl, _, _, rfl, rfl, _, _, rfl, rfl, _, _, rfl, rfl, _, _, rfl, rfl, _, _, rfl, rfl, rfl⟩ := hc
    rfl
theorem tests_typed : ∀ (l : List Dt), (∀ x ∈ l, Typed Tryd.prog 5 54 x) → ∃ ts : List TestT, ts.length = l.length ∧ (∀ t ∈ ts, TestRng t) ∧ wtAll l = 8 * ts.length ∧ ∀ (m : Mem) (cs : List Value), Reps m l cs → cs = ts.flatMap testC
  | [], _ => ⟨[], rfl, fun r hr => by simp at hr, rfl, fun m cs h => by simpa [Reps] using h⟩
  | d :: l, h => by
    obtain ⟨t, h1, hw, h2⟩ := test_typed (h d (by simp))
    obtain ⟨ts, h3, h4, hw2, h5⟩ := tests_typed l (fun x hx => h x (by simp [hx]))
    refine ⟨t :: ts, by simp [h3], fun x hx => ?_, ?_, fun m cs hc => ?_⟩
    · rcases List.mem_cons.1 hx with rfl | hx
      · exact h1
      · exact h4 x hx
    · rw [wtAll, hw, hw2, List.length_cons]; omega
    · simp only [Reps] at hc
      obtain ⟨c1, c2, rfl, g1, g2⟩ := hc
      rw [h2 m c1 g1, h5 m c2 g2]; rfl
def tl : Dt → Nat
  | .ag (.sl l _ :: _) => l.length
  | _ => 0
def els : Dt → List Dt
  | .sl l _ => l
  | _ => []
theorem keepAll_at {m : Mem} {b : Nat} {x : Blk} (h : b < m.size) (hg : m.get b = x) : keepAll m b = some x := by
  unfold keepAll; rw [if_pos h, hg]
theorem rule_typed {d : Dt} (h : Typed Tryd.prog 7 49 d) : ∃ r : RuleT, (∀ t ∈ r.tests, TestRng t) ∧ 3 * (1 + r.tests.length) ≤ wt d ∧ r.tests.length = tl d ∧ ∀ (m : Mem) (cs : List Value), Rep m d cs → ∃ v, cs = ruleC (v, r) ∧ tstsAt (keepAll m) v r.tests := by
  unfold Typed at h
  rw [Tryd.underlying49] at h
  obtain ⟨l, rfl, h⟩ := h
  simp only [List.map_cons, List.map_nil] at h
  obtain ⟨d0, l, rfl, h0, h⟩ := all2_cons h
  obtain ⟨d1, l, rfl, h1, h⟩ := all2_cons h
  have hnil := all2_nil h
  subst hnil
  obtain ⟨ve, rfl, _⟩ := typed_int Tryd.underlying44 h1
  unfold Typed at h0
  rw [Tryd.underlying47] at h0
  rcases h0 with rfl | ⟨l, cap, rfl, hle, _, hl⟩
  · refine ⟨⟨[], ve⟩, fun t ht => by simp at ht, by simp only [wt, wtAll, List.length_nil]; omega, rfl, fun m cs hc => ?_⟩
    simp only [Rep, Reps] at hc
    obtain ⟨_, _, rfl, rfl, _, _, rfl, rfl, rfl⟩ := hc
    exact ⟨.slice none 0 0, rfl, none, 0, rfl, fun h0 => absurd rfl h0⟩
  · obtain ⟨ts, g1, g2, g3, g4⟩ := tests_typed l hl
    refine ⟨⟨ts, ve⟩, g2, ?_, g1, fun m cs hc => ?_⟩
    · show 3 * (1 + ts.length) ≤ wt (.ag [.sl l cap, .int .u32 ve])
      simp only [wt, wtAll]; omega
    · simp only [Rep, Reps] at hc
      obtain ⟨_, _, rfl, ⟨b, sp, c, rfl, q2, q3, q4, _⟩, _, _, rfl, rfl, rfl⟩ := hc
      refine ⟨.slice (some ⟨b, 0, sp⟩) l.length cap, rfl, some ⟨b, 0, sp⟩, cap, by rw [g1], fun _ => ⟨b, sp, false, [], rfl, ?_⟩⟩
      rw [List.append_nil, ← g4 m c q4]
      exact keepAll_at q2 q3
theorem rules_typed : ∀ (l : List Dt), (∀ x ∈ l, Typed Tryd.prog 7 49 x) → ∃ rs : List RuleT, rs.length = l.length ∧ TableRng rs ∧ 3 * longN rs ≤ wtAll l ∧ rs.map (fun r => r.tests.length) = l.map tl ∧ ∀ (m : Mem) (cs : List Value), Reps m l cs → ∃ vr : List (Value × RuleT), vr.map (·.2) = rs ∧ cs = vr.flatMap ruleC ∧ ∀ x ∈ vr, tstsAt (keepAll m) x.1 x.2.tests
  | [], _ => ⟨[], rfl, fun r hr => by simp at hr, by decide, rfl, fun m cs h => ⟨[], rfl, by simpa [Reps] using h, fun x hx => by simp at hx⟩⟩
  | d :: l, h => by
    obtain ⟨r, h1, hw, ht1, h2⟩ := rule_typed (h d (by simp))
    obtain ⟨rs, h3, h4, hw2, ht2, h5⟩ := rules_typed l (fun x hx => h x (by simp [hx]))
    refine ⟨r :: rs, by simp [h3], fun x hx => ?_, ?_, by rw [List.map_cons, List.map_cons, ht1, ht2], fun m cs hc => ?_⟩
    · rcases List.mem_cons.1 hx with rfl | hx
      · exact h1
      · exact h4 x hx
    · rw [wtAll]
      unfold longN at hw2 ⊢
      rw [List.map_cons, List.sum_cons, List.length_cons]; omega
    · simp only [Reps] at hc
      obtain ⟨c1, c2, rfl, g1, g2⟩ := hc
      obtain ⟨v, rfl, e2⟩ := h2 m c1 g1
      obtain ⟨vr, e3, rfl, e5⟩ := h5 m c2 g2
      refine ⟨(v, r) :: vr, by rw [List.map_cons, e3], by rw [List.flatMap_cons], fun x hx => ?_⟩
      rcases List.mem_cons.1 hx with rfl | hx
      · exact e2
      · exact e5 x hx
theorem rules_arg {m : Mem} {d : Dt} {v : Value} (h : Typed Tryd.prog 8 22 d) (ha : Arg Tryd.prog m 22 d v) : ∃ rs : List RuleT, TableRng rs ∧ 3 * longN rs ≤ wt d ∧ rulesAt (keepAll m) v rs ∧ rs.map (fun r => r.tests.length) = (els d).map tl := by
  have hag : aggB Tryd.prog 22 = some false := by kernel_rfl
  unfold Arg at ha
  rw [hag] at ha
  simp only at ha
  unfold Typed at h
  rw [Tryd.underlying22] at h
  rcases h with rfl | ⟨l, cap, rfl, hle, _, hl⟩
  · simp only [Rep] at ha
    have : v = .slice none 0 0 := by simpa using ha
    exact ⟨[], fun r hr => by simp at hr, by show 3 * 0 ≤ _; omega, ⟨none, 0, this, fun h0 => absurd rfl h0⟩, rfl⟩
  · simp only [Rep] at ha
    obtain ⟨b, sp, c, h1, h2, h3, h4, h5⟩ := ha
    obtain ⟨rs, g1, g2, g3, g5, g4⟩ := rules_typed l hl
    obtain ⟨vr, e1, rfl, e3⟩ := g4 m c h4
    have hv : v = .slice (some ⟨b, 0, sp⟩) l.length cap := by simpa using h1
    refine ⟨rs, g2, by rw [wt]; omega, ⟨some ⟨b, 0, sp⟩, cap, by rw [hv, g1], fun _ => ⟨b, sp, false, [], vr, rfl, e1, ?_, e3⟩⟩, g5⟩
    rw [List.append_nil]
    exact keepAll_at h2 h3
theorem by49' : Tryd.prog.bytesOf 49 = 32 := by kernel_rfl
theorem by54' : Tryd.prog.bytesOf 54 = 56 := by kernel_rfl
theorem weights_mem {H : Type} {P : Program} {e : TypeId} {y : DataW H} {w : Nat} : ∀ {ys : List (DataW H)}, y ∈ ys → w ∈ y.weights P e → w ∈ DataW.weightsAll P e ys
  | [], h, _ => by simp at h
  | d :: r, h, hw => by
    rw [DataW.weightsAll]
    rcases List.mem_cons.1 h with rfl | h
    · exact List.mem_append_left _ hw
    · exact List.mem_append_right _ (weights_mem h hw)
theorem weights_len {H : Type} {d : Dt} {y : DataW H} (h : DRel d y) (hw : ∀ w ∈ y.weights Tryd.prog 22, w ≤ reachBytes) : (els d).length * 32 ≤ 140737488355328 ∧ ∀ x ∈ els d, tl x * 56 ≤ 140737488355328 := by
  cases h with
  | @sl l cap elems rest hl h =>
    simp only [DataW.weights, Tryd.underlying22, by49'] at hw
    refine ⟨?_, fun x hx => ?_⟩
    · have := hw _ (List.mem_cons_self ..)
      unfold reachBytes at this
      show l.length * 32 ≤ _
      rw [hl]
      omega
    · have hx : x ∈ l := hx
      obtain ⟨i, hi, hxi⟩ := List.getElem_of_mem hx
      have hx' : l[i]? = some x := by rw [List.getElem?_eq_getElem hi]; exact congrArg some hxi
      have hi2 : i < elems.length := by omega
      have hy' : elems[i]? = some elems[i] := List.getElem?_eq_getElem hi2
      have hd := h i x _ hx' hy'
      have hmem : elems[i] ∈ elems := List.getElem_mem hi2
      generalize elems[i] = z at hd hmem
      cases hd with
      | @ag l2 parts hl2 h2 =>
        cases l2 with
        | nil => show 0 * 56 ≤ _; omega
        | cons d0 l2 =>
          cases parts with
          | nil => simp at hl2
          | cons p0 parts =>
            have h0 := h2 0 d0 p0 rfl rfl
            cases h0 with
            | @sl ts c2 el2 rest2 hl3 _ =>
              have hin : (el2.length + rest2.length) * 56 ∈ (DataW.agg (.slice el2 rest2 :: parts)).weights Tryd.prog 49 := by
                simp only [DataW.weights, Tryd.underlying49, List.map_cons, List.map_nil, DataW.weightsEach, Tryd.underlying47, by54']
                simp
              have := hw _ (List.mem_cons_of_mem _ (List.mem_append_left _ (weights_mem hmem hin)))
              unfold reachBytes at this
              show ts.length * 56 ≤ _
              rw [hl3]
              omega
            | _ => show 0 * 56 ≤ _; omega
      | _ => show 0 * 56 ≤ _; omega
  | _ => exact ⟨by show 0 * 32 ≤ _; omega, fun x hx => by simp [els] at hx⟩
theorem args_nil {P : Program} {n : Nat} {m : Mem} {l : List Dt} {vs : List Value} (h : Args P n m [] l vs) : l = [] ∧ vs = [] := by
  cases l <;> cases vs <;> simp_all [Args]
theorem args_cons {P : Program} {n : Nat} {m : Mem} {t : TypeId} {ts : List TypeId} {l : List Dt} {vs : List Value} (h : Args P n m (t :: ts) l vs) : ∃ d l' v vs', l = d :: l' ∧ vs = v :: vs' ∧ Typed P n t d ∧ Arg P m t d v ∧ Args P n m ts l' vs' := by
  cases l with
  | nil => cases vs <;> simp [Args] at h
  | cons d l =>
    cases vs with
    | nil => simp [Args] at h
    | cons v vs => exact ⟨d, l, v, vs, rfl, rfl, h.1, h.2.1, h.2.2⟩
theorem args1 {P : Program} {n : Nat} {m : Mem} {t : TypeId} {l : List Dt} {vs : List Value} (h : Args P n m [t] l vs) : ∃ d v, l = [d] ∧ vs = [v] ∧ Typed P n t d ∧ Arg P m t d v := by
  obtain ⟨d, l, v, vs, rfl, rfl, h1, h2, h⟩ := args_cons h
  obtain ⟨rfl, rfl⟩ := args_nil h
  exact ⟨d, v, rfl, rfl, h1, h2⟩
end
end Go.Proofs.YtadioopbehiakaaDoor
