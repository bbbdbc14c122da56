/- The law FlowKnown, a closed one: the interpreter, shape.Check's contracts, the run. -/
import Derived.Test.YtipdeijgaabobaaGreatDoorK00
import Derived.Laws.Append
set_option linter.all false
set_option linter.unusedVariables false
set_option linter.unusedSimpArgs false
/-
  DiHeavy: append, copy, conversions between strings and bytes.
-/
namespace Go.DI
section
variable {P : Program} {K : TypeId → Bool} {G B0 n : Nat} {ι : Ren} {m : Mem} {w : World} {t : Tmps} {a : Act}

theorem firstC_ok (hr : Rel B0 G ι m w) {size k ln : Nat} {x x' : Value} (hx : VRel ι x x') {c : List Value} (h : firstC m size k x = some c) (hl : lenOf x = some ln) (hk : k ≤ ln) :
    ∃ c', (Builtin.firstCells size k x').run P w = .ok c'.toArray w ∧ VRels ι c c' := by
  unfold firstC at h
  split at h <;> try (simp at h; done)
  · rename_i b off sp l cp
    have hlen : c.length = k * size := by
      unfold loadC at h
      split at h <;> try (simp at h; done)
      split at h <;> simp at h
      rw [← h]; simp; omega
    cases hx with
    | slc _ _ _ _ L hL =>
      obtain ⟨c', h1, h2⟩ := loadC_ok (P := P) hr hL h
      exact ⟨c', by simpa [Builtin.firstCells] using h1, h2⟩
    | loose _ _ _ _ _ _ L hL hc htot =>
      obtain ⟨c', h1, h2⟩ := loadC_ok (P := P) hr hL h
      exact ⟨c', by simpa [Builtin.firstCells] using h1, h2⟩
    | loose0 _ _ _ _ _ L hL htot =>
      simp [lenOf] at hl
      have hk0 : k = 0 := by omega
      subst hk0
      have : c = [] := List.eq_nil_of_length_eq_zero (by simpa using hlen)
      subst this
      exact ⟨[], by simp [Builtin.firstCells, loadCells, loadCellsFrom], .nil⟩
    | empty _ _ _ a =>
      simp [lenOf] at hl
      have hk0 : k = 0 := by omega
      subst hk0
      have : c = [] := List.eq_nil_of_length_eq_zero (by simpa using hlen)
      subst this
      exact ⟨[], by simp [Builtin.firstCells, loadCells, loadCellsFrom], .nil⟩
  · rename_i l cp
    simp at h; subst h
    cases hx
    exact ⟨[], by simp [Builtin.firstCells], .nil⟩
  · rename_i q
    split at h <;> simp at h
    rename_i h1
    subst h1 h
    cases hx
    refine ⟨_, ?_, LRel.refl _ fun x hx => ?_⟩
    · simp only [Builtin.firstCells, Sem.run_pure]
      congr 1
      apply Array.ext'
      simp [ByteArray.data_extract, Array.toList_extract, List.extract]
    · obtain ⟨u, _, rfl⟩ := List.mem_map.1 (List.mem_of_mem_take hx); exact .int _ _

theorem lenOf_ok {x x' : Value} (hx : VRel ι x x') {k : Nat} (h : lenOf x = some k) : (Builtin.lenOf x').run P w = .ok k w := by
  unfold lenOf at h
  split at h <;> simp at h
  · subst h; cases hx <;> simp [Builtin.lenOf]
  · subst h; cases hx; simp [Builtin.lenOf]

/-- A slice that grows where it lies: its old block's number is not used any more. -/
theorem Rel.inplace (hr : Rel B0 G ι m w) (hn : ι m.size = none) {b : Nat} {L : Loc} (hL : ι b = some L) (hlt : b < m.size) (hold : (m.get b).own = true) {c : List Value} {ob : Obj} {o' : Nat}
    (hnew : BlkRel B0 (fun q => if q = m.size then some ⟨L.block, o', L.total⟩ else ι q) (.cells true c) ⟨L.block, o', L.total⟩ (setBlk w L.block ob)) :
    Rel B0 G (fun q => if q = m.size then some ⟨L.block, o', L.total⟩ else ι q) ((m.push (.cells true c)).set b .none) (setBlk w L.block ob) ∧
    Stp ι (fun q => if q = m.size then some ⟨L.block, o', L.total⟩ else ι q) m ((m.push (.cells true c)).set b .none) w (setBlk w L.block ob) := by
  have hs : (setBlk w L.block ob).heap.size = w.heap.size := by simp [setBlk]
  have hle : ι.le (fun q => if q = m.size then some ⟨L.block, o', L.total⟩ else ι q) := by
    intro q L' hq
    have : q ≠ m.size := by intro e; rw [e, hn] at hq; cases hq
    simp [this, hq]
  have holdl : (m.get b).live := by cases hg : m.get b <;> simp_all [Blk.own, Blk.live]
  have hget : ∀ q, ((m.push (.cells true c)).set b .none).get q = if q = b then .none else if q = m.size then .cells true c else m.get q := by
    intro q; rw [Mem.get_set, Mem.get_push]
  have hbn : b ≠ m.size := by omega
  refine ⟨⟨fun q L' hq hL' => ?_, fun b₁ b₂ L₁ L₂ h1 h2 h3 h4 l1 l2 g0 e => ?_, by rw [hs]; exact hr.floor, fun g hg => ?_, fun q hq => ?_⟩,
    ⟨hle, fun q hq => ?_, rfl, rfl, rfl, by rw [hs]; exact Nat.le_refl _, fun B hB hnn => ?_, fun q L' h1 h2 hL' => ?_, by simp, fun q hq ho => ?_⟩⟩
  · rw [hget]
    by_cases e1 : q = b
    · simp [e1, BlkRel]
    · by_cases e2 : q = m.size
      · subst e2; simp at hL'; subst hL'; simpa [e1] using hnew
      · simp only [e1, e2, if_false] at hL' ⊢
        simp at hq
        have hq' : q < m.size := by omega
        have hbr := hr.blk q L' hq' hL'
        by_cases hlv : (m.get q).live
        · refine hbr.mono hle ?_
          rw [setBlk_get _ _ _ _ (hr.old b L hL holdl), if_neg]
          intro e3
          exact e1 (hr.inj q b L' L hq' hlt hL' hL hlv holdl (Nat.le_trans ((hr.blk b L hlt hL).own_floor hold) (Nat.le_of_eq e3.symm)) e3)
        · cases hg : m.get q <;> simp_all [Blk.live, BlkRel]
  · rw [hget] at l1 l2
    simp at h1 h2
    have n1 : b₁ ≠ b := by intro e1; simp [e1, Blk.live] at l1
    have n2 : b₂ ≠ b := by intro e1; simp [e1, Blk.live] at l2
    simp only [n1, n2, if_false] at l1 l2
    by_cases e1 : b₁ = m.size
    · by_cases e2 : b₂ = m.size
      · omega
      · simp [e1] at h3; simp [e2] at h4; subst h3
        simp [e2] at l2
        exact absurd (hr.inj b₂ b L₂ L (by omega) hlt h4 hL l2 holdl (Nat.le_trans g0 (Nat.le_of_eq e)) e.symm) n2
    · by_cases e2 : b₂ = m.size
      · simp [e1] at h3; simp [e2] at h4; subst h4
        simp [e1] at l1
        exact absurd (hr.inj b₁ b L₁ L (by omega) hlt h3 hL l1 holdl g0 e) n1
      · simp [e1] at h3; simp [e2] at h4
        simp [e1] at l1; simp [e2] at l2
        exact hr.inj b₁ b₂ L₁ L₂ (by omega) (by omega) h3 h4 l1 l2 g0 e
  · obtain ⟨L', h1, h2⟩ := hr.glob g hg
    exact ⟨L', hle _ _ h1, h2⟩
  · simp at hq
    rw [hget, if_neg (by omega), if_neg (by omega)]
    exact hr.top q (by omega)
  · simp at hq
    have : q ≠ m.size := by omega
    simp [this]
  · rw [setBlk_get _ _ _ _ (hr.old b L hL holdl), if_neg]
    intro e
    exact hnn b L hlt hL hold e.symm
  · simp at h2
    have : q = m.size := by omega
    simp [this] at hL'; subst hL'
    exact .inr ⟨b, L, hlt, hL, hold, rfl⟩
  · rw [hget] at ho
    by_cases e1 : q = b
    · simp [e1, Blk.own] at ho
    · have : q ≠ m.size := by omega
      simpa [e1, this] using ho

/-- A block whose number is not used any more. -/
theorem Rel.kill (hr : Rel B0 G ι m w) {b : Nat} (_hlt : b < m.size) : Rel B0 G ι (m.set b .none) w ∧ Stp ι ι m (m.set b .none) w w := by
  refine ⟨⟨fun q L hq hL => ?_, fun b₁ b₂ L₁ L₂ h1 h2 h3 h4 l1 l2 g0 e => ?_, hr.floor, hr.glob, fun q hq => ?_⟩, ⟨fun _ _ h => h, fun _ _ => rfl, rfl, rfl, rfl, Nat.le_refl _, fun _ _ _ => rfl, fun q L h1 h2 => by simp at h2; omega, Nat.le_refl _, fun q hq ho => ?_⟩⟩
  · rw [Mem.get_set]
    by_cases e : q = b
    · simp [e, BlkRel]
    · simpa [e] using hr.blk q L hq hL
  · rw [Mem.get_set] at l1 l2
    have n1 : b₁ ≠ b := by intro e1; simp [e1, Blk.live] at l1
    have n2 : b₂ ≠ b := by intro e1; simp [e1, Blk.live] at l2
    simp only [n1, n2, if_false] at l1 l2
    exact hr.inj b₁ b₂ L₁ L₂ h1 h2 h3 h4 l1 l2 g0 e
  · rw [Mem.get_set]; split
    · rfl
    · exact hr.top q hq
  · rw [Mem.get_set] at ho
    by_cases e1 : q = b
    · simp [e1, Blk.own] at ho
    · simpa [e1] using ho

theorem Rel.drew (hr : Rel B0 G ι m w) : Rel B0 G ι m w.drew ∧ Stp ι ι m m w w.drew :=
  ⟨⟨fun b L hb hL => (hr.blk b L hb hL).mono (w := w) (w' := w.drew) (fun _ _ h => h) rfl, hr.inj, hr.floor, hr.glob, hr.top⟩,
   ⟨fun _ _ h => h, fun _ _ => rfl, rfl, rfl, rfl, Nat.le_refl _, fun _ _ _ => rfl, fun b L h1 h2 => by omega, Nat.le_refl _, fun _ _ h => h⟩⟩

set_option maxHeartbeats 1000000 in
theorem run_append_new {tS tX e ty : TypeId} {dX : TypeDesc} (hu : P.underlying tS = some (.slice e)) (huX : P.underlying tX = some dX) (hX : ∀ k, dX ≠ .int k) {size bytes : Nat} (hs : szOf P e = some size) (hby : bytesOf P e = some bytes)
    {z : Value} (hz : zeroOf P e = some z) (_hzs : z.cells.size = size) {base : Option Addr} {sLen sCap k : Nat} {x : Value} (hl : (Builtin.lenOf x).run P w = .ok k w) (hneed : ¬ sLen + k ≤ sCap)
    (hb1 : (sLen + k) * bytes ≤ 140737488355328) (hb2 : sLen + k ≤ 4611686018427387904) (hb3 : 0 < bytes)
    {old new : List Value} (g1 : (Builtin.firstCells size sLen (.slice base sLen sCap)).run P w.drew = .ok old.toArray w.drew) (g2 : (Builtin.firstCells size k x).run P w.drew = .ok new.toArray w.drew) :
    ∃ cap', sLen + k ≤ cap' ∧ (Builtin.append_ #[tS, tX] ty #[.slice base sLen sCap, x]).run P w = .ok (.slice (some ⟨w.heap.size, 0, none⟩) (sLen + k) cap') (w.drew.alloc (.cells ((old ++ new) ++ (Builtin.zeroCells z.cells (cap' - (sLen + k))).toList).toArray e)) := by
  obtain ⟨i, hi, hib⟩ := run_typeInfo_bytes (w := w) hby
  have hint : (match dX with | .int _ => true | _ => false) = false := by cases dX <;> first | rfl | exact absurd rfl (hX _)
  have hfit := growslice_fits (need := sLen + k) (old := sCap) (bytes := bytes) (by omega) hb1
  refine ⟨(Question.appendCap (sLen + k) sCap e).cut (w.tape w.drawn (.appendCap (sLen + k) sCap e)), by simp [Question.cut], ?_⟩
  have hi' : ∀ w' : World, (typeInfo e).run P w' = .ok i w' := by
    intro w'
    obtain ⟨i', h1', _⟩ := run_typeInfo_bytes (w := w') hby
    have : P.info? e = some i := by
      simp only [typeInfo, Sem.run_bind, run_program, Result.andThen_ok] at hi
      split at hi
      · rename_i q hq; simp at hi; rw [hq, hi]
      · simp at hi
    simp [typeInfo, this]
  have h63' : ¬ (9223372036854775807 < ((sLen : Int) + (k : Int))) := by omega
  have h48' : ¬ (281474976710656 < Builtin.nextslicecap (sLen + k) sCap * i.bytes) := by rw [hib]; omega
  clear hint hfit
  cases dX <;> first | exact absurd rfl (hX _) | (simp [Builtin.append_, run_und hu, run_und huX, run_sizeOf' hs, hl, hneed, h63', h48', hi', Question.forced, g1, g2, run_zero' hz, run_newRow]; congr 2; apply Array.ext'; simp)

set_option maxHeartbeats 1000000 in
theorem run_append_room {tS tX e ty : TypeId} {dX : TypeDesc} (hu : P.underlying tS = some (.slice e)) (huX : P.underlying tX = some dX) (hX : ∀ k, dX ≠ .int k) {size : Nat} (hs : szOf P e = some size)
    {base : Option Addr} {sLen sCap k : Nat} {x : Value} (hl : (Builtin.lenOf x).run P w = .ok k w) (hneed : sLen + k ≤ sCap)
    {new : List Value} (h2 : (Builtin.firstCells size k x).run P w = .ok new.toArray w) :
    (Builtin.append_ #[tS, tX] ty #[.slice base sLen sCap, x]).run P w = match base with
      | some a => ((storeCells (a.add (sLen * size)) new).run P w).andThen fun _ w' => .ok (.slice base (sLen + k) sCap) w'
      | none => .ok (.slice none (sLen + k) sCap) w := by
  cases dX <;> first | exact absurd rfl (hX _) | (cases base <;> simp [Builtin.append_, run_und hu, run_und huX, run_sizeOf' hs, hl, hneed, h2])

theorem VRel.len0 {ι : Ren} {base : Option Addr} {sLen sCap : Nat} {s' : Value} (h : VRel ι (.slice base sLen sCap) s') : ∃ base' sCap', s' = .slice base' sLen sCap' ∧ sCap ≤ sCap' := by
  cases h
  · exact ⟨_, _, rfl, Nat.le_refl _⟩
  · exact ⟨_, _, rfl, Nat.le_refl _⟩
  · exact ⟨_, _, rfl, ‹_›⟩
  · exact ⟨_, _, rfl, Nat.zero_le _⟩
  · exact ⟨_, _, rfl, Nat.le_refl _⟩

end
end Go.DI
