/-
  CState: the program's maker and its labels, and the rows that they stand for: what put, jump and a new label do.
-/
import Derived.Test.YtadioopbehiakaaDoorK11
set_option linter.all false
set_option linter.unusedVariables false
set_option linter.unusedSimpArgs false
namespace Go.Proofs.YtadioopbehiakaaDoor
open Go Go.DI Go.DI.Kit Go.Proofs Go.Cmp
noncomputable section
def lbS (rows : List RowS) (x : Nat × Nat) : Nat × Thing := (x.1, lbO (atS rows x.2 : Int) (jumpsS x.2 rows 0))
structure St0 (K : Keep) (mp : Nat) (f : Nat → Option Nat) (rows : List RowS) (labs : List (Nat × Nat)) (fr : Nat → Prop) (M : Mem) : Prop where
  hp : Hp M K ((mp, mkO (outGo f rows 0)) :: labs.map (lbS rows))
  glob : K 0 = some (.cells false gl)
  pos : ∀ x ∈ labs, 0 < x.2 ∧ f x.2 = none
  nod : (labs.map (·.2)).Nodup
  free : ∀ l, fr l → 0 < l ∧ f l = none ∧ (∀ x ∈ labs, x.2 ≠ l) ∧ ∀ r ∈ rows, r.to ≠ l ∧ r.here ≠ l
  sett : ∀ l q, f l = some q → q = atS rows l
  known : ∀ r ∈ rows, 0 < r.to → (∃ x ∈ labs, x.2 = r.to) ∨ (f r.to).isSome
def St (K : Keep) (mp : Nat) (rows : List RowS) (labs : List (Nat × Nat)) (fr : Nat → Prop) (M : Mem) : Prop := ∃ f, St0 K mp f rows labs fr M
section
variable {K K' : Keep} {mp : Nat} {rows : List RowS} {labs labs' : List (Nat × Nat)} {fr fr' : Nat → Prop} {M M' : Mem}
theorem St.frees (h : St K mp rows labs fr M) (hf : ∀ l, fr' l → fr l) : St K mp rows labs fr' M := by
  obtain ⟨f, h⟩ := h
  exact ⟨f, h.hp, h.glob, h.pos, h.nod, fun l hl => h.free l (hf l hl), h.sett, h.known⟩
theorem St.weak (h : St K' mp rows labs fr M) (hg : K 0 = some (.cells false gl)) (hw : ∀ j x, K j = some x → K' j = some x) : St K mp rows labs fr M := by
  obtain ⟨f, h⟩ := h
  exact ⟨f, h.hp.weak hw, hg, h.pos, h.nod, h.free, h.sett, h.known⟩
theorem St.ext (h : St K mp rows labs fr M) (hx : Ext M M') : St K mp rows labs fr M' := by
  obtain ⟨f, h⟩ := h
  exact ⟨f, h.hp.ext hx, h.glob, h.pos, h.nod, h.free, h.sett, h.known⟩
theorem St.top (h : St K mp rows labs fr M) : M.top := by obtain ⟨f, h⟩ := h; exact h.hp.top
theorem St.get (h : St K mp rows labs fr M) {j : Nat} {x : Blk} (hj : K j = some x) : M.get j = x := by obtain ⟨f, h⟩ := h; exact h.hp.get hj
theorem St.lt (h : St K mp rows labs fr M) {j : Nat} {x : Blk} (hj : K j = some x) : j < M.size := by obtain ⟨f, h⟩ := h; exact h.hp.lt hj
theorem St.glb (h : St K mp rows labs fr M) : K 0 = some (.cells false gl) := by obtain ⟨f, h⟩ := h; exact h.glob
theorem St.box (h : St K mp rows labs fr M) (x : Blk) : St (keep1 K M.size x) mp rows labs fr (M.push x) ∧ ∀ j y, K j = some y → keep1 K M.size x j = some y := by
  obtain ⟨f, h⟩ := h
  have hb := h.hp.boxP x
  exact ⟨⟨f, hb.1, hb.2 _ _ h.glob, h.pos, h.nod, h.free, h.sett, h.known⟩, hb.2⟩
theorem St.perm (h : St K mp rows labs fr M) (hp : labs.Perm labs') : St K mp rows labs' fr M := by
  obtain ⟨f, h⟩ := h
  exact ⟨f, h.hp.perm ((hp.map _).cons _), h.glob, fun x hx => h.pos x (hp.mem_iff.2 hx), (hp.map _).nodup_iff.1 h.nod, fun l hl => ⟨(h.free l hl).1, (h.free l hl).2.1, fun x hx => (h.free l hl).2.2.1 x (hp.mem_iff.2 hx), (h.free l hl).2.2.2⟩, h.sett, fun r hr h0 => by
    rcases h.known r hr h0 with ⟨x, hx, he⟩ | hs
    · exact .inl ⟨x, hp.mem_iff.1 hx, he⟩
    · exact .inr hs⟩
theorem St.label (h : St K mp rows labs fr M) {l : Nat} (hl : fr l) : St K mp rows ((M.size, l) :: labs) (fun j => fr j ∧ j ≠ l) (M.push (.cells true [.int .i64 0, .slice none 0 0])) := by
  obtain ⟨f, h⟩ := h
  obtain ⟨h0, h1, h2, h3⟩ := h.free l hl
  refine ⟨f, ?_, h.glob, ?_, ?_, ?_, h.sett, ?_⟩
  · have hp := h.hp.push [.int .i64 0] [] 1
    have e : lbS rows (M.size, l) = (M.size, ⟨[.int .i64 0], [], 1, 0, []⟩) := by
      simp only [lbS, atS_fresh h0 rows (fun r hr => (h3 r hr).2), jumps_fresh rows 0 (fun r hr => (h3 r hr).1)]
      rfl
    rw [List.map_cons, e]
    exact hp.perm (List.Perm.swap _ _ _)
  · intro x hx
    rcases List.mem_cons.1 hx with rfl | hx
    · exact ⟨h0, h1⟩
    · exact h.pos x hx
  · rw [List.map_cons]
    refine List.nodup_cons.2 ⟨fun hm => ?_, h.nod⟩
    obtain ⟨x, hx, he⟩ := List.mem_map.1 hm
    exact h2 x hx he
  · intro j hj
    obtain ⟨g0, g1, g2, g3⟩ := h.free j hj.1
    refine ⟨g0, g1, fun x hx => ?_, g3⟩
    rcases List.mem_cons.1 hx with rfl | hx
    · exact fun e => hj.2 e.symm
    · exact g2 x hx
  · intro r hr h0
    rcases h.known r hr h0 with ⟨x, hx, he⟩ | hs
    · exact .inl ⟨x, List.mem_cons_of_mem _ hx, he⟩
    · exact .inr hs
theorem lbS_ins0 (x : Ins) {to : Nat} {labs : List (Nat × Nat)} (h : ∀ y ∈ labs, y.2 ≠ to) : labs.map (lbS (rows ++ [ins x to])) = labs.map (lbS rows) := by
  refine List.map_congr_left fun y hy => ?_
  simp only [lbS, atS_ins, jumps_ins]
  rw [if_neg (fun e => h y hy e.symm), List.append_nil]
section
variable {o : Orc} {k : Nat}
theorem put_st {wc wo ws : Int} {ww wr : Bool} {i x : Ins} (ho : ∀ a m, o 35 a m = none) (hl : rows.length ≤ 100000) (h : St K mp rows labs fr M) (hmk : Makes o k (whatV wc wo ws ww wr) (insV i) x) :
    ∃ M', callN Tryd.prog kp 1 o (k + 1) 35 [ptr mp, whatV wc wo ws ww wr, insV i] M = some (unitV, M') ∧ St K mp (rows ++ [ins x 0]) labs fr M' := by
  obtain ⟨f, h⟩ := h
  have hc := cnt_le rows
  have hlen := outGo_length f rows 0
  obtain ⟨M', c, h'⟩ := put_run ho h.glob (by omega) h.hp hmk
  refine ⟨M', c, f, ?_, h.glob, h.pos, h.nod, ?_, ?_, ?_⟩
  · rw [lbS_ins0 x fun y hy => Nat.pos_iff_ne_zero.1 (h.pos y hy).1, outGo_ins0]; exact h'
  · intro l hl
    obtain ⟨g0, g1, g2, g3⟩ := h.free l hl
    refine ⟨g0, g1, g2, fun r hr => ?_⟩
    rcases List.mem_append.1 hr with hr | hr
    · exact g3 r hr
    · obtain rfl := List.mem_singleton.1 hr
      exact ⟨by show 0 ≠ l; omega, by show 0 ≠ l; omega⟩
  · intro l q hq; rw [atS_ins]; exact h.sett l q hq
  · intro r hr h0
    rcases List.mem_append.1 hr with hr | hr
    · exact h.known r hr h0
    · obtain rfl := List.mem_singleton.1 hr
      exact absurd h0 (Nat.lt_irrefl 0)
theorem jump_st {wc wo ws : Int} {ww wr : Bool} {i x : Ins} {lp l : Nat} (hm : (lp, l) ∈ labs) (ho : ∀ a m, o 35 a m = none) (ho2 : ∀ a m, o 37 a m = none) (hl : rows.length ≤ 100000) (h : St K mp rows labs fr M) (hmk : Makes o k (whatV wc wo ws ww wr) (insV i) x) :
    ∃ M', callN Tryd.prog kp 1 o (k + 2) 37 [ptr mp, whatV wc wo ws ww wr, insV i, ptr lp] M = some (unitV, M') ∧ St K mp (rows ++ [ins x l]) labs fr M' := by
  obtain ⟨l1, l2, rfl⟩ := List.append_of_mem hm
  have hp := List.perm_middle (a := (lp, l)) (l₁ := l1) (l₂ := l2)
  suffices hs : ∃ M', callN Tryd.prog kp 1 o (k + 2) 37 [ptr mp, whatV wc wo ws ww wr, insV i, ptr lp] M = some (unitV, M') ∧ St K mp (rows ++ [ins x l]) ((lp, l) :: (l1 ++ l2)) fr M' by
    obtain ⟨M', c, h'⟩ := hs
    exact ⟨M', c, h'.perm hp.symm⟩
  obtain ⟨f, h⟩ := h.perm hp
  have hc := cnt_le rows
  have hlen := outGo_length f rows 0
  have hjl := jumps_length l rows 0
  have hpos := h.pos (lp, l) (List.mem_cons_self ..)
  have hnod := List.nodup_cons.1 h.nod
  obtain ⟨M', c, h'⟩ := jump_run (at_ := (atS rows l : Int)) (js := jumpsS l rows 0) ho ho2 h.glob (by omega) (by omega) h.hp hmk
  have hne : ∀ y ∈ l1 ++ l2, y.2 ≠ l := fun y hy e => hnod.1 (List.mem_map.2 ⟨y, hy, e⟩)
  refine ⟨M', c, f, ?_, h.glob, h.pos, h.nod, ?_, ?_, ?_⟩
  · rw [List.map_cons, lbS_ins0 x hne, outGo_insL rows x hpos.2]
    have e : lbS (rows ++ [ins x l]) (lp, l) = (lp, lbO (atS rows l : Int) (jumpsS l rows 0 ++ [(outGo f rows 0).length])) := by
      simp only [lbS, atS_ins, jumps_ins, if_true, hlen]
    rw [e]; exact h'
  · intro j hj
    obtain ⟨g0, g1, g2, g3⟩ := h.free j hj
    refine ⟨g0, g1, g2, fun r hr => ?_⟩
    rcases List.mem_append.1 hr with hr | hr
    · exact g3 r hr
    · obtain rfl := List.mem_singleton.1 hr
      exact ⟨g2 (lp, l) (List.mem_cons_self ..), by show 0 ≠ j; omega⟩
  · intro l q hq; rw [atS_ins]; exact h.sett l q hq
  · intro r hr h0
    rcases List.mem_append.1 hr with hr | hr
    · exact h.known r hr h0
    · obtain rfl := List.mem_singleton.1 hr
      exact .inl ⟨(lp, l), List.mem_cons_self .., rfl⟩
theorem konst_st {d n : Int} {x : Ins} (ho : ∀ a m, o 35 a m = none) (ho2 : ∀ a m, o 42 a m = none) (hl : rows.length ≤ 100000) (h : St K mp rows labs fr M) (hmk : Makes o k (whatV 10 0 0 false false) (insV ⟨0, d, 0, 0, loW n⟩) x) :
    ∃ M', callN Tryd.prog kp 1 o (k + 2) 42 [ptr mp, .int .u8 d, .int .u64 n] M = some (unitV, M') ∧ St K mp (rows ++ [ins x 0, ins ⟨0, 0, 0, 0, loW (Int.fdiv n 4294967296)⟩ 0]) labs fr M' := by
  obtain ⟨f, h⟩ := h
  have hc := cnt_le rows
  have hlen := outGo_length f rows 0
  obtain ⟨M', c, h'⟩ := konst_run ho ho2 h.glob (by omega) h.hp hmk
  refine ⟨M', c, f, ?_, h.glob, h.pos, h.nod, ?_, ?_, ?_⟩
  · have hz : ∀ y ∈ labs, y.2 ≠ 0 := fun y hy => Nat.pos_iff_ne_zero.1 (h.pos y hy).1
    rw [show rows ++ [ins x 0, ins ⟨0, 0, 0, 0, loW (Int.fdiv n 4294967296)⟩ 0] = (rows ++ [ins x 0]) ++ [ins ⟨0, 0, 0, 0, loW (Int.fdiv n 4294967296)⟩ 0] by simp, lbS_ins0 _ hz, lbS_ins0 _ hz, outGo_ins0, outGo_ins0, List.append_assoc]
    exact h'
  · intro l hl
    obtain ⟨g0, g1, g2, g3⟩ := h.free l hl
    refine ⟨g0, g1, g2, fun r hr => ?_⟩
    rcases List.mem_append.1 hr with hr | hr
    · exact g3 r hr
    · simp only [List.mem_cons, List.not_mem_nil, or_false] at hr
      rcases hr with rfl | rfl
      · exact ⟨by show 0 ≠ l; omega, by show 0 ≠ l; omega⟩
      · exact ⟨by show 0 ≠ l; omega, by show 0 ≠ l; omega⟩
  · intro l q hq
    rw [show rows ++ [ins x 0, ins ⟨0, 0, 0, 0, loW (Int.fdiv n 4294967296)⟩ 0] = (rows ++ [ins x 0]) ++ [ins ⟨0, 0, 0, 0, loW (Int.fdiv n 4294967296)⟩ 0] by simp, atS_ins, atS_ins]; exact h.sett l q hq
  · intro r hr h0
    rcases List.mem_append.1 hr with hr | hr
    · exact h.known r hr h0
    · simp only [List.mem_cons, List.not_mem_nil, or_false] at hr
      rcases hr with rfl | rfl
      · exact absurd h0 (Nat.lt_irrefl 0)
      · exact absurd h0 (Nat.lt_irrefl 0)
end
theorem St.made (h : St K mp rows [] fr M) : Hp M K [(mp, mkO (madeS rows))] := by
  obtain ⟨f, h⟩ := h
  have e := outGo_made f rows h.sett fun r hr h0 => by
    rcases h.known r hr h0 with ⟨x, hx, _⟩ | hs
    · simp at hx
    · exact hs
  rw [← e]; exact h.hp
end
end
end Go.Proofs.YtadioopbehiakaaDoor
