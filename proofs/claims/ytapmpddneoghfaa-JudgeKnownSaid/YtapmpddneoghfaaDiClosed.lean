/-
  DiClosed: a function of no argument that the quick interpreter answers 'true', answers 'true' in the model: and nothing that was there turns.
-/
import Derived.Test.YtapmpddneoghfaaDiFast3
import Derived.ChangeSame
import Derived.Below
import Derived.KernelRfl
namespace Go.DI
open Go.RowKit Go.ChangeShapes Go.WideShapes

def m0 : Mem := ⟨fun _ => .none, .nil, 0⟩
def isT : Option (Value × Mem) → Bool
  | some (.bool true, _) => true
  | _ => false

def among (l : List TypeId) (t : TypeId) : Bool := l.any fun u => Nat.beq u t
theorem plain_among {P : Program} {l : List TypeId} (h : (l.all fun t => not (P.stoodInHeld t) && not (P.eqGuardType P.depth t)) = true) : Plain P (among l) := by
  intro t ht
  simp only [among, List.any_eq_true] at ht
  obtain ⟨u, hu, hut⟩ := ht
  obtain rfl := Nat.eq_of_beq_eq_true hut
  have := List.all_eq_true.1 h u hu
  simp only [Bool.and_eq_true, Bool.not_eq_true'] at this
  exact this
theorem noNG_of {P : Program} (h : (P.funcs.toList.all fun fn => fn.body.isNone || not (fn.name == "runtime.NumGoroutine")) = true) : NoNG P := by
  intro f fn hf hb
  have hm : fn ∈ P.funcs.toList := by
    have : P.funcs.toList[f]? = some fn := by simpa using hf
    exact List.mem_of_getElem? this
  have := List.all_eq_true.1 h fn hm
  rw [hb] at this
  simpa using this

theorem rel0 (w : World) : Rel w.heap.size 0 (fun _ => none) m0 w where
  blk := fun b L h => absurd h (Nat.not_lt_zero _)
  inj := fun b₁ b₂ L₁ L₂ h => absurd h (Nat.not_lt_zero _)
  old := fun b L h => by simp at h
  floor := Nat.le_refl _
  glob := fun g h => absurd h (Nat.not_lt_zero _)
  top := fun b _ => rfl

theorem calls_true {P : Program} {K : TypeId → Bool} {k : Nat} {f : FuncId} (hmix : P.follows .mixedOrders = true) (hK : Plain P K) (hng : NoNG P) (h : isT (callF P K 0 k f [] m0) = true) (w : World) :
    Calls P f #[] w fun e w' => e = .returned (.bool true) ∧ Below w.heap.size w w' := by
  rw [callF_eq] at h
  cases hc : callD P K 0 k f [] m0 with
  | none => rw [hc] at h; simp [isT] at h
  | some r =>
    obtain ⟨v, m'⟩ := r
    rw [hc] at h
    have hv : v = .bool true := by
      cases v <;> simp [isT] at h
      rename_i b
      cases b
      · simp [isT] at h
      · rfl
    subst hv
    have := callD_calls (B0 := w.heap.size) (ι := fun _ => none) (w := w) (args' := []) hmix hK hng hc (rel0 w) (fun _ _ _ => rfl) .nil
    refine this.mono ?_
    rintro e w' ⟨v', ι', he, hv', hr', hs⟩
    refine ⟨by rw [he, hv'.inv_bool], ⟨hs.os, hs.tape, hs.output, hs.hsize, fun B hB => hs.below (rel0 w) B hB⟩⟩

/-- What a change says, where of the old blocks nothing turned. -/
theorem post_below {H : Type} {enc : TypeId × Value → H} {P : Program} {f : Func} {s : ChangeSpec} {apart fresh handsOn again : Bool} {W W' : World} {args : Array Value} {v : Value} {ds gs : List (DataW H)} {before pa pv : List MemPlace}
    (hW : DataW.Whole enc P f.params.toList s.vars apart W args.toList ds gs before)
    (hres : ∀ (b : Nat) (sp : Nat → Bool) (hd : Bool), DataW.TrodAll enc P W' b sp hd f.resultTypes.toList (v.resultList f.resultTypes.size) (s.fn H (ds ++ gs)).results [])
    (hargs : ∀ sp : Nat → Bool, (∀ p ∈ before, sp p.block = true) → DataW.TrodAll enc P W' 0 sp true f.params.toList args.toList (s.fn H (ds ++ gs)).args pa)
    (hvars : ∀ sp : Nat → Bool, (∀ p ∈ before, sp p.block = true) → DataW.TrodVars enc P W' sp s.vars (s.fn H (ds ++ gs)).vars pv)
    (hps : before = pa ++ pv) (hb : Below W.heap.size W W')
    (hok : ∀ (j : Nat) (t : TypeId) (r : Value), f.resultTypes[j]? = some t → (v.resultList f.resultTypes.size)[j]? = some r → Value.okWide P W' .any 0 t r) :
    s.post enc P f apart fresh handsOn again W args v W' := by
  subst hps
  have old : ∀ p ∈ pa ++ pv, (fun b => decide (b < W.heap.size)) p.block = true := fun p hp => decide_eq_true (hW.lt p hp)
  refine ⟨ds, gs, pa ++ pv, [], pa, pv, hW, hres _ _ _, hargs _ old, hvars _ old, World.keptBut_mono (fun p hp => ⟨hp, .inr (List.mem_append.1 hp)⟩) (hb.frame _), fun _ => ?_⟩
  have hlt := hW.lt
  obtain ⟨_, _, _, _, _, hz, hn⟩ := hW
  refine ⟨hok, _, _, ([] ++ pa) ++ pv, ⟨[] ++ pa, pv, trodAll_append (hargs _ (fun _ _ => rfl)) (hres _ _ _), hvars _ (fun _ _ => rfl), rfl, ?_, ?_⟩, ?_⟩
  · intro b off hp
    have hp' : MemPlace.cell b off ∈ pa ++ pv := by simpa using hp
    have := hlt _ hp'
    rw [hb.frozen (p := ⟨b, off, none⟩) this]
    exact hz b off hp'
  · intro ha
    simpa using hn ha
  · intro p hp _
    simpa using hp
end Go.DI
