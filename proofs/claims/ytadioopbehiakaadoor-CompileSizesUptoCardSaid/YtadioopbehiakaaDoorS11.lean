/-
  CPut2: konst, and the reference's Put, Const, Here.
-/
import Derived.Test.YtadioopbehiakaaDoorS10
set_option linter.all false
set_option linter.unusedVariables false
set_option linter.unusedSimpArgs false
namespace Go.Proofs.YtadioopbehiakaaDoor
open Go Go.DI Go.DI.Kit Go.Proofs Go.Cmp
noncomputable section
theorem at42 : Tryd.prog.funcs[42]? = some Tryd.f42 := by kernel_rfl
theorem bd42 : Tryd.f42.body = some (bodyOf Tryd.f42) := by kernel_rfl
theorem nt42 : Tryd.f42.ntmps = 28 := by kernel_rfl
theorem n42 {a b c : Value} : max [a, b, c].length Tryd.f42.ntmps = 28 := by rw [nt42]; rfl
theorem ok42 : okR Tryd.prog 42 unitV = true := by kernel_rfl
theorem r42_eq {α : Type} (cf : Y.CF α) (L : Y.LK α) (k : Nat) (t : Tmps) (m : Mem) (q : Y.ExK α) : Y.codeF (Y.loopC c42 0) Tryd.prog kp 1 (Y.cfT Tryd.prog cf) L 28 k t m q = Y.opsF r42 Tryd.prog kp 1 (Y.cfT Tryd.prog cf) 28 r42 t m fun t m => q .normal t m := by kernel_rfl
def MakesR (o : Orc) (k : Nat) (w i : Value) (x : Ins) : Prop := ∀ M, M.top → 1 ≤ M.size → M.get 0 = .cells false gl → ∃ e M', callN Tryd.prog kp 1 o k 53 [w, i] M = some (.tuple ⟨[insV x, .int .i64 e]⟩, M') ∧ Ext M M'
theorem mk_next (l : List Ins) (x : Ins) : ({ mkO l with n := (mkO l).n + 1, c := (mkO l).c ++ insC x } : Thing) = mkO (l ++ [x]) := by simp [mkO]
theorem mk_app {K : Keep} {mp : Nat} {M : Mem} {l : List Ins} {hs : List (Nat × Thing)} (hl : l.length ≤ 1000000000) (h : Hp M K ((mp, mkO l) :: hs)) (x : Ins) {M1 : Mem} {nb : Nat} (hx : Ext M M1) (hn : M1.get nb = .cells true (insC x)) :
    ∃ a a' M2 M3, M.get mp = .cells true [.slice a l.length l.length] ∧ appendD Tryd.prog M1 28 28 (.slice a l.length l.length) (.slice (some ⟨nb, 0, none⟩) 1 1) = some (.slice a' (l.length + 1) (l.length + 1), M2) ∧ storeD Tryd.prog M2 28 (.slice a' (l.length + 1) (l.length + 1)) (.pointer (some ⟨mp, 0, none⟩)) = some M3 ∧ Hp M3 K ((mp, mkO (l ++ [x])) :: hs) := by
  obtain ⟨a, gm, happ⟩ := h.append und28 sz28 sz42 (show (5 : Nat) ≠ 0 by decide) by42 (by decide) ze42 (by show (l.length + 1) * 12 ≤ _ ∧ l.length + 1 ≤ _; omega)
  obtain ⟨a', M7, M8, p1, p2, h8, _, _⟩ := happ M1 nb true (insC x) hx hn rfl rfl
  rw [mk_next] at h8
  exact ⟨a, a', M7, M8, gm, p1, p2, h8⟩
def loW (n : Int) : Int := IntKind.wrap .i32 (IntKind.wrap .u32 n)
set_option maxHeartbeats 400000 in
theorem konst_run {o : Orc} {k : Nat} {K : Keep} {mp : Nat} {M : Mem} {l : List Ins} {hs : List (Nat × Thing)} {d n : Int} {x : Ins} (ho : ∀ a m, o 35 a m = none) (ho2 : ∀ a m, o 42 a m = none) (h0 : K 0 = some (.cells false gl))
    (hl : l.length ≤ 100000000) (h : Hp M K ((mp, mkO l) :: hs)) (hmk : Makes o k (whatV 10 0 0 false false) (insV ⟨0, d, 0, 0, loW n⟩) x) :
    ∃ M', callN Tryd.prog kp 1 o (k + 2) 42 [ptr mp, .int .u8 d, .int .u64 n] M = some (unitV, M') ∧ Hp M' K ((mp, mkO (l ++ [x, ⟨0, 0, 0, 0, loW (Int.fdiv n 4294967296)⟩])) :: hs) := by
  obtain ⟨M1, c35, h1⟩ := put_run (k := k) ho h0 (by omega) h hmk
  obtain ⟨a, a', M7, M8, gm, p1, p2, h8⟩ := mk_app (by simp; omega) h1 ⟨0, 0, 0, 0, loW (Int.fdiv n 4294967296)⟩ (Ext.push M1 (.cells true (insC ⟨0, 0, 0, 0, loW (Int.fdiv n 4294967296)⟩))) (Mem.get_push_same _ _)
  rw [List.append_assoc] at h8
  refine ⟨M8, call_of 28 (ho2 _ _) at42 bd42 n42 ?_ ok42, h8⟩
  refine Eq.trans (markS_eq [1] Tryd.prog kp 1 _ (Y.lpOf Tryd.prog kp 1 (callN Tryd.prog kp 1 o (k + 1)) 28) (fun _ _ _ _ _ _ _ => rfl) 28 (k + 1) (bodyOf Tryd.f42) (by kernel_rfl) _ M _) ?_
  refine Eq.trans (t_konA ..) ?_
  rw [nCf, show callN Tryd.prog kp 1 o (k + 1) 35 [.pointer (some ⟨mp, 0, none⟩), .agg ⟨[.int .i64 10, .int .i64 0, .int .i64 0, .bool false, .bool false]⟩, .agg ⟨[.int .u8 0, .int .u8 d, .int .u8 0, .int .i16 0, .int .i32 (IntKind.wrap .i32 (IntKind.wrap .u32 n))]⟩] M = some (unitV, M1) from c35, nOnV]
  refine Eq.trans (loop_reg _ _ _ (by kernel_rfl) _ _ _ _) ?_
  refine Eq.trans (r42_eq ..) ?_
  refine Eq.trans (opsF_cut 11 ..) ?_
  refine Eq.trans (t_konB ..) ?_
  obtain ⟨l1, hl1⟩ : ∃ l1, l ++ [x] = l1 := ⟨_, rfl⟩
  rw [hl1] at gm p1 p2
  rw [gm, nCells, show Y.nthL [Value.slice a l1.length l1.length] 0 = some (.slice a l1.length l1.length) from rfl, nElim, nAsSl]
  refine Eq.trans (t_konC ..) ?_
  rw [Y.appendF_eq, show appendD Tryd.prog (M1.push (.cells true [.int .u8 0, .int .u8 0, .int .u8 0, .int .i16 0, .int .i32 (IntKind.wrap .i32 (IntKind.wrap .u32 (Int.fdiv n 4294967296)))])) 28 28 (.slice a l1.length l1.length) (.slice (some ⟨M1.size, 0, none⟩) 1 1) = _ from p1, nOnV, Y.storeF_eq, show storeD Tryd.prog M7 28 _ (.pointer (some ⟨mp, 0, none⟩)) = _ from p2, Y.ob_some]
  exact t_konK ..
end
end Go.Proofs.YtadioopbehiakaaDoor
namespace Go.Cmp
open Go Go.DI
theorem outGo_ins0 (f : Nat → Option Nat) (a : List RowS) (x : Ins) : outGo f (a ++ [ins x 0]) 0 = outGo f a 0 ++ [x] := by
  rw [outGo_append]; simp [outGo, ins, isLab]
theorem outGo_insL {f : Nat → Option Nat} (a : List RowS) (x : Ins) {l : Nat} (hf : f l = none) : outGo f (a ++ [ins x l]) 0 = outGo f a 0 ++ [x] := by
  rw [outGo_append]; simp [outGo, ins, isLab, hf]
theorem outGo_lab (f : Nat → Option Nat) (a : List RowS) {l : Nat} (hl : 0 < l) : outGo f (a ++ [lab l]) 0 = outGo f a 0 := by
  rw [outGo_append]; simp [outGo, lab, isLab, hl]
theorem cnt_le : ∀ a : List RowS, cnt a ≤ a.length
  | [] => Nat.le_refl _
  | r :: a => by
    have := cnt_le a
    simp only [cnt, List.length_cons]
    split <;> omega
theorem jumps_ins (a : List RowS) (x : Ins) (to l : Nat) : jumpsS l (a ++ [ins x to]) 0 = jumpsS l a 0 ++ (if to = l then [cnt a] else []) := by
  rw [jumpsS_append]; simp [jumpsS, ins, isLab]
theorem jumps_lab (a : List RowS) (l : Nat) {l' : Nat} (hl : 0 < l') : jumpsS l (a ++ [lab l']) 0 = jumpsS l a 0 := by
  rw [jumpsS_append]; simp [jumpsS, lab, isLab, hl]
theorem jumps_length (l : Nat) : ∀ (a : List RowS) (n : Nat), (jumpsS l a n).length ≤ cnt a
  | [], n => Nat.le_refl _
  | r :: a, n => by
    have h1 := jumps_length l a n
    have h2 := jumps_length l a (n + 1)
    simp only [jumpsS, cnt]
    split
    · exact h1
    · rw [List.length_append]
      split
      · simp; omega
      · simp; omega
theorem jumps_fresh {l : Nat} : ∀ (a : List RowS) (n : Nat), (∀ r ∈ a, r.to ≠ l) → jumpsS l a n = []
  | [], n, _ => rfl
  | r :: a, n, h => by
    simp only [jumpsS]
    rw [jumps_fresh a n fun r hr => h r (by simp [hr]), jumps_fresh a (n + 1) fun r hr => h r (by simp [hr]), if_neg (h r (by simp))]
    simp
theorem atGo_append : ∀ (a b : List RowS) (n : Nat) (f : Nat → Nat), atGo (a ++ b) n f = atGo b (n + cnt a) (atGo a n f)
  | [], b, n, f => by simp [atGo, cnt]
  | r :: a, b, n, f => by
    simp only [List.cons_append, atGo, cnt]
    split
    · exact atGo_append a b n _
    · rw [atGo_append a b (n + 1) f, show n + 1 + cnt a = n + (cnt a + 1) by omega]
theorem atS_ins (a : List RowS) (x : Ins) (to l : Nat) : atS (a ++ [ins x to]) l = atS a l := by
  unfold atS; rw [atGo_append]; simp [atGo, ins, isLab]
theorem atS_lab (a : List RowS) {l : Nat} (hl : 0 < l) (j : Nat) : atS (a ++ [lab l]) j = if j = l then cnt a else atS a j := by
  unfold atS; rw [atGo_append]; simp [atGo, lab, isLab, hl]
theorem at_fresh {l : Nat} (hl : 0 < l) : ∀ (a : List RowS) (n : Nat) (f : Nat → Nat), (∀ r ∈ a, r.here ≠ l) → atGo a n f l = f l
  | [], n, f, _ => rfl
  | r :: a, n, f, h => by
    simp only [atGo]
    split
    · rw [at_fresh hl a n _ fun r hr => h r (by simp [hr]), if_neg (fun e => h r (by simp) e.symm)]
    · exact at_fresh hl a (n + 1) f fun r hr => h r (by simp [hr])
theorem atS_fresh {l : Nat} (hl : 0 < l) (a : List RowS) (h : ∀ r ∈ a, r.here ≠ l) : atS a l = 0 := at_fresh hl a 0 _ h
theorem atS_le : ∀ (a : List RowS) (n : Nat) (f : Nat → Nat) (c : Nat), n + cnt a ≤ c → (∀ j, f j ≤ c) → ∀ j, atGo a n f j ≤ c
  | [], n, f, c, _, hf, j => hf j
  | r :: a, n, f, c, hc, hf, j => by
    simp only [atGo, cnt] at hc ⊢
    split
    · rename_i h
      rw [if_pos h] at hc
      refine atS_le a n _ c hc (fun j => ?_) j
      split
      · omega
      · exact hf j
    · rename_i h
      rw [if_neg h] at hc
      exact atS_le a (n + 1) f c (by omega) hf j
theorem atS_cnt (a : List RowS) (j : Nat) : atS a j ≤ cnt a := atS_le a 0 _ _ (by omega) (fun _ => Nat.zero_le _) j
theorem outGo_made (f : Nat → Option Nat) (a : List RowS) (hs : ∀ l q, f l = some q → q = atS a l) (hk : ∀ r ∈ a, 0 < r.to → (f r.to).isSome) : outGo f a 0 = madeS a := by
  refine outGo_same f _ a 0 fun r hr _ h0 => ?_
  have h1 := hk r hr h0
  cases h : f r.to with
  | none => rw [h] at h1; cases h1
  | some q => rw [hs _ _ h]
end Go.Cmp
namespace Go.Proofs.YtadioopbehiakaaDoor
open Go Go.DI Go.DI.Kit Go.Proofs Go.Cmp
noncomputable section
def lbS (rows : List RowS) (x : Nat × Nat) : Nat × Thing := (x.1, lbO (atS rows x.2 : Int) (jumpsS x.2 rows 0))
structure St0 (K : Keep) (mp : Nat) (f : Nat → Option Nat) (rows : List RowS) (labs : List (Nat × Nat)) (fr : Nat → Prop) (M : Mem) : Prop where
  hp : Hp M K ((mp, mkO (outGo f rows 0)) :: labs.map (lbS rows))
  glob : K 0 = some (.cells false gl)
  pos : ∀ x ∈ labs, 0 < x.2 ∧ f x.2 = none
  nod : (labs.map (·.2)).Nodup
  free : ∀ l, fr l → 0 < l ∧ f l = none ∧ (∀ x ∈ labs, x.2 ≠ l) ∧ ∀ r ∈ rows, r.to ≠ l ∧ r.here ≠ l
  sett : ∀ l q, f l = some q → q = atS rows l
  known : ∀ r ∈ rows, 0 < r.to → (∃ x ∈ labs, x.2 = r.to) ∨ (f r.to).isSome
def St (K : Keep) (mp : Nat) (rows : List RowS) (labs : List (Nat × Nat)) (fr : Nat → Prop) (M : Mem) : Prop := ∃ f, St0 K mp f rows labs fr M
section
variable {K K' : Keep} {mp : Nat} {rows : List RowS} {labs labs' : List (Nat × Nat)} {fr fr' : Nat → Prop} {M M' : Mem}
theorem St.frees (h : St K mp rows labs fr M) (hf : ∀ l, fr' l → fr l) : St K mp rows labs fr' M := by
  obtain ⟨f, h⟩ := h
  exact ⟨f, h.hp, h.glob, h.pos, h.nod, fun l hl => h.free l (hf l hl), h.sett, h.known⟩
theorem St.weak (h : St K' mp rows labs fr M) (hg : K 0 = some (.cells false gl)) (hw : ∀ j x, K j = some x → K' j = some x) : St K mp rows labs fr M := by
  obtain ⟨f, h⟩ := h
  exact ⟨f, h.hp.weak hw, hg, h.pos, h.nod, h.free, h.sett, h.known⟩
theorem St.ext (h : St K mp rows labs fr M) (hx : Ext M M') : St K mp rows labs fr M' := by
  obtain ⟨f, h⟩ := h
  exact ⟨f, h.hp.ext hx, h.glob, h.pos, h.nod, h.free, h.sett, h.known⟩
theorem St.top (h : St K mp rows labs fr M) : M.top := by obtain ⟨f, h⟩ := h; exact h.hp.top
theorem St.get (h : St K mp rows labs fr M) {j : Nat} {x : Blk} (hj : K j = some x) : M.get j = x := by obtain ⟨f, h⟩ := h; exact h.hp.get hj
theorem St.lt (h : St K mp rows labs fr M) {j : Nat} {x : Blk} (hj : K j = some x) : j < M.size := by obtain ⟨f, h⟩ := h; exact h.hp.lt hj
theorem St.glb (h : St K mp rows labs fr M) : K 0 = some (.cells false gl) := by obtain ⟨f, h⟩ := h; exact h.glob
theorem St.box (h : St K mp rows labs fr M) (x : Blk) : St (keep1 K M.size x) mp rows labs fr (M.push x) ∧ ∀ j y, K j = some y → keep1 K M.size x j = some y := by
  obtain ⟨f, h⟩ := h
  have hb := h.hp.boxP x
  exact ⟨⟨f, hb.1, hb.2 _ _ h.glob, h.pos, h.nod, h.free, h.sett, h.known⟩, hb.2⟩
theorem St.perm (h : St K mp rows labs fr M) (hp : labs.Perm labs') : St K mp rows labs' fr M := by
  obtain ⟨f, h⟩ := h
  exact ⟨f, h.hp.perm ((hp.map _).cons _), h.glob, fun x hx => h.pos x (hp.mem_iff.2 hx), (hp.map _).nodup_iff.1 h.nod, fun l hl => ⟨(h.free l hl).1, (h.free l hl).2.1, fun x hx => (h.free l hl).2.2.1 x (hp.mem_iff.2 hx), (h.free l hl).2.2.2⟩, h.sett, fun r hr h0 => by
    rcases h.known r hr h0 with ⟨x, hx, he⟩ | hs
    · exact .inl ⟨x, hp.mem_iff.1 hx, he⟩
    · exact .inr hs⟩
theorem St.label (h : St K mp rows labs fr M) {l : Nat} (hl : fr l) : St K mp rows ((M.size, l) :: labs) (fun j => fr j ∧ j ≠ l) (M.push (.cells true [.int .i64 0, .slice none 0 0])) := by
  obtain ⟨f, h⟩ := h
  obtain ⟨h0, h1, h2, h3⟩ := h.free l hl
  refine ⟨f, ?_, h.glob, ?_, ?_, ?_, h.sett, ?_⟩
  · have hp := h.hp.push [.int .i64 0] [] 1
    have e : lbS rows (M.size, l) = (M.size, ⟨[.int .i64 0], [], 1, 0, []⟩) := by
      simp only [lbS, atS_fresh h0 rows (fun r hr => (h3 r hr).2), jumps_fresh rows 0 (fun r hr => (h3 r hr).1)]
      rfl
    rw [List.map_cons, e]
    exact hp.perm (List.Perm.swap _ _ _)
  · intro x hx
    rcases List.mem_cons.1 hx with rfl | hx
    · exact ⟨h0, h1⟩
    · exact h.pos x hx
  · rw [List.map_cons]
    refine List.nodup_cons.2 ⟨fun hm => ?_, h.nod⟩
    obtain ⟨x, hx, he⟩ := List.mem_map.1 hm
    exact h2 x hx he
  · intro j hj
    obtain ⟨g0, g1, g2, g3⟩ := h.free j hj.1
    refine ⟨g0, g1, fun x hx => ?_, g3⟩
    rcases List.mem_cons.1 hx with rfl | hx
    · exact fun e => hj.2 e.symm
    · exact g2 x hx
  · intro r hr h0
    rcases h.known r hr h0 with ⟨x, hx, he⟩ | hs
    · exact .inl ⟨x, List.mem_cons_of_mem _ hx, he⟩
    · exact .inr hs
theorem lbS_ins0 (x : Ins) {to : Nat} {labs : List (Nat × Nat)} (h : ∀ y ∈ labs, y.2 ≠ to) : labs.map (lbS (rows ++ [ins x to])) = labs.map (lbS rows) := by
  refine List.map_congr_left fun y hy => ?_
  simp only [lbS, atS_ins, jumps_ins]
  rw [if_neg (fun e => h y hy e.symm), List.append_nil]
section
variable {o : Orc} {k : Nat}
theorem put_st {wc wo ws : Int} {ww wr : Bool} {i x : Ins} (ho : ∀ a m, o 35 a m = none) (hl : rows.length ≤ 100000) (h : St K mp rows labs fr M) (hmk : Makes o k (whatV wc wo ws ww wr) (insV i) x) :
    ∃ M', callN Tryd.prog kp 1 o (k + 1) 35 [ptr mp, whatV wc wo ws ww wr, insV i] M = some (unitV, M') ∧ St K mp (rows ++ [ins x 0]) labs fr M' := by
  obtain ⟨f, h⟩ := h
  have hc := cnt_le rows
  have hlen := outGo_length f rows 0
  obtain ⟨M', c, h'⟩ := put_run ho h.glob (by omega) h.hp hmk
  refine ⟨M', c, f, ?_, h.glob, h.pos, h.nod, ?_, ?_, ?_⟩
  · rw [lbS_ins0 x fun y hy => Nat.pos_iff_ne_zero.1 (h.pos y hy).1, outGo_ins0]; exact h'
  · intro l hl
    obtain ⟨g0, g1, g2, g3⟩ := h.free l hl
    refine ⟨g0, g1, g2, fun r hr => ?_⟩
    rcases List.mem_append.1 hr with hr | hr
    · exact g3 r hr
    · obtain rfl := List.mem_singleton.1 hr
      exact ⟨by show 0 ≠ l; omega, by show 0 ≠ l; omega⟩
  · intro l q hq; rw [atS_ins]; exact h.sett l q hq
  · intro r hr h0
    rcases List.mem_append.1 hr with hr | hr
    · exact h.known r hr h0
    · obtain rfl := List.mem_singleton.1 hr
      exact absurd h0 (Nat.lt_irrefl 0)
theorem jump_st {wc wo ws : Int} {ww wr : Bool} {i x : Ins} {lp l : Nat} (hm : (lp, l) ∈ labs) (ho : ∀ a m, o 35 a m = none) (ho2 : ∀ a m, o 37 a m = none) (hl : rows.length ≤ 100000) (h : St K mp rows labs fr M) (hmk : Makes o k (whatV wc wo ws ww wr) (insV i) x) :
    ∃ M', callN Tryd.prog kp 1 o (k + 2) 37 [ptr mp, whatV wc wo ws ww wr, insV i, ptr lp] M = some (unitV, M') ∧ St K mp (rows ++ [ins x l]) labs fr M' := by
  obtain ⟨l1, l2, rfl⟩ := List.append_of_mem hm
  have hp := List.perm_middle (a := (lp, l)) (l₁ := l1) (l₂ := l2)
  suffices hs : ∃ M', callN Tryd.prog kp 1 o (k + 2) 37 [ptr mp, whatV wc wo ws ww wr, insV i, ptr lp] M = some (unitV, M') ∧ St K mp (rows ++ [ins x l]) ((lp, l) :: (l1 ++ l2)) fr M' by
    obtain ⟨M', c, h'⟩ := hs
    exact ⟨M', c, h'.perm hp.symm⟩
  obtain ⟨f, h⟩ := h.perm hp
  have hc := cnt_le rows
  have hlen := outGo_length f rows 0
  have hjl := jumps_length l rows 0
  have hpos := h.pos (lp, l) (List.mem_cons_self ..)
  have hnod := List.nodup_cons.1 h.nod
  obtain ⟨M', c, h'⟩ := jump_run (at_ := (atS rows l : Int)) (js := jumpsS l rows 0) ho ho2 h.glob (by omega) (by omega) h.hp hmk
  have hne : ∀ y ∈ l1 ++ l2, y.2 ≠ l := fun y hy e => hnod.1 (List.mem_map.2 ⟨y, hy, e⟩)
  refine ⟨M', c, f, ?_, h.glob, h.pos, h.nod, ?_, ?_, ?_⟩
  · rw [List.map_cons, lbS_ins0 x hne, outGo_insL rows x hpos.2]
    have e : lbS (rows ++ [ins x l]) (lp, l) = (lp, lbO (atS rows l : Int) (jumpsS l rows 0 ++ [(outGo f rows 0).length])) := by
      simp only [lbS, atS_ins, jumps_ins, if_true, hlen]
    rw [e]; exact h'
  · intro j hj
    obtain ⟨g0, g1, g2, g3⟩ := h.free j hj
    refine ⟨g0, g1, g2, fun r hr => ?_⟩
    rcases List.mem_append.1 hr with hr | hr
    · exact g3 r hr
    · obtain rfl := List.mem_singleton.1 hr
      exact ⟨g2 (lp, l) (List.mem_cons_self ..), by show 0 ≠ j; omega⟩
  · intro l q hq; rw [atS_ins]; exact h.sett l q hq
  · intro r hr h0
    rcases List.mem_append.1 hr with hr | hr
    · exact h.known r hr h0
    · obtain rfl := List.mem_singleton.1 hr
      exact .inl ⟨(lp, l), List.mem_cons_self .., rfl⟩
theorem konst_st {d n : Int} {x : Ins} (ho : ∀ a m, o 35 a m = none) (ho2 : ∀ a m, o 42 a m = none) (hl : rows.length ≤ 100000) (h : St K mp rows labs fr M) (hmk : Makes o k (whatV 10 0 0 false false) (insV ⟨0, d, 0, 0, loW n⟩) x) :
    ∃ M', callN Tryd.prog kp 1 o (k + 2) 42 [ptr mp, .int .u8 d, .int .u64 n] M = some (unitV, M') ∧ St K mp (rows ++ [ins x 0, ins ⟨0, 0, 0, 0, loW (Int.fdiv n 4294967296)⟩ 0]) labs fr M' := by
  obtain ⟨f, h⟩ := h
  have hc := cnt_le rows
  have hlen := outGo_length f rows 0
  obtain ⟨M', c, h'⟩ := konst_run ho ho2 h.glob (by omega) h.hp hmk
  refine ⟨M', c, f, ?_, h.glob, h.pos, h.nod, ?_, ?_, ?_⟩
  · have hz : ∀ y ∈ labs, y.2 ≠ 0 := fun y hy => Nat.pos_iff_ne_zero.1 (h.pos y hy).1
    rw [show rows ++ [ins x 0, ins ⟨0, 0, 0, 0, loW (Int.fdiv n 4294967296)⟩ 0] = (rows ++ [ins x 0]) ++ [ins ⟨0, 0, 0, 0, loW (Int.fdiv n 4294967296)⟩ 0] by simp, lbS_ins0 _ hz, lbS_ins0 _ hz, outGo_ins0, outGo_ins0, List.append_assoc]
    exact h'
  · intro l hl
    obtain ⟨g0, g1, g2, g3⟩ := h.free l hl
    refine ⟨g0, g1, g2, fun r hr => ?_⟩
    rcases List.mem_append.1 hr with hr | hr
    · exact g3 r hr
    · simp only [List.mem_cons, List.not_mem_nil, or_false] at hr
      rcases hr with rfl | rfl
      · exact ⟨by show 0 ≠ l; omega, by show 0 ≠ l; omega⟩
      · exact ⟨by show 0 ≠ l; omega, by show 0 ≠ l; omega⟩
  · intro l q hq
    rw [show rows ++ [ins x 0, ins ⟨0, 0, 0, 0, loW (Int.fdiv n 4294967296)⟩ 0] = (rows ++ [ins x 0]) ++ [ins ⟨0, 0, 0, 0, loW (Int.fdiv n 4294967296)⟩ 0] by simp, atS_ins, atS_ins]; exact h.sett l q hq
  · intro r hr h0
    rcases List.mem_append.1 hr with hr | hr
    · exact h.known r hr h0
    · simp only [List.mem_cons, List.not_mem_nil, or_false] at hr
      rcases hr with rfl | rfl
      · exact absurd h0 (Nat.lt_irrefl 0)
      · exact absurd h0 (Nat.lt_irrefl 0)
end
theorem St.made (h : St K mp rows [] fr M) : Hp M K [(mp, mkO (madeS rows))] := by
  obtain ⟨f, h⟩ := h
  have e := outGo_made f rows h.sett fun r hr h0 => by
    rcases h.known r hr h0 with ⟨x, hx, _⟩ | hs
    · simp at hx
    · exact hs
  rw [← e]; exact h.hp
end
end
end Go.Proofs.YtadioopbehiakaaDoor
