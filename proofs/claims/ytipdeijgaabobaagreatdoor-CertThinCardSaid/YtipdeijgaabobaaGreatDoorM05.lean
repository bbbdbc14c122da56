/- The law CertThin: the interpreter, the contracts, the law. -/
import Derived.Test.YtipdeijgaabobaaGreatDoorM04
import Derived.Test.YtipdeijgaabobaaGreatDoorM03
import Derived.Shelf.Abstract
set_option linter.all false
set_option linter.unusedVariables false
set_option linter.unusedSimpArgs false
/-
  FPts: stockadelaw15.Points: a round.
-/
namespace Go.Proofs.YtipdeijgaabobaaGreatDoor
open Go Go.DI Go.DI.Kit Go.Proofs Go.Crt
noncomputable section
noncomputable def lb14 : Code := loopN Tryz.f14 0
abbrev ds14 : List Nat := [0, 3, 4]
def hAp (l : List (Nat × Value)) (b : Blk) (r : Value × Mem) : H.Hint := { hAt (lkN l) with bs := fun _ => some b, apO := fun _ => some r }
abbrev slc (b : Nat) (sp : Option Nat) (n c : Nat) : Value := .slice (some ⟨b, 0, sp⟩) n c
abbrev z14 (k : Nat) (lb : Nat) (sp : Option Nat) (n cap : Nat) (acc : Value) (i a : Int) (L : List Value) (off : Nat) (lt : Bool) (r : Value × Mem) (x : Nat → Value) (M : Mem) :=
  pcZ (hAp [(8, .bool lt), (14, po lb off), (16, i3 a), (19, po lb off), (21, .agg ⟨L⟩), (22, .agg ⟨i3 a :: L⟩), (10, i3 (i + 1))] (.cells true (i3 a :: L)) r) noA tn14 noQ (oTab tn14) Tryz.prog kp 1 k lb14 26 ds14 (fullN 26 (up x (ds14.zip [slc lb sp n cap, acc, i3 i]))) M
theorem t14a (k : Nat) (lb : Nat) (sp : Option Nat) (n cap : Nat) (acc : Value) (i a : Int) (L : List Value) (off : Nat) (r : Value × Mem) (x : Nat → Value) (M : Mem) : ansX (z14 k lb sp n cap acc i a L off true r x M) =
    some ((.normal, [slc lb sp n cap, r.1, i3 (i + 1)], r.2), [bn .lss 3 (i3 i) (i3 (Int.ofNat n)) (.bool true), indexAddrD Tryz.prog 55 (slc lb sp n cap) (i3 i) = some (po lb off), H.ldOk (M.get lb) off false 1 (i3 a), indexAddrD Tryz.prog 55 (slc lb sp n cap) (i3 i) = some (po lb off), H.ldOk (M.get lb) (Nat.add off 1) true 740 (.agg ⟨L⟩),
      buildD Tryz.prog 51 [(0, i3 a), (1, .agg ⟨L⟩)] = some (.agg ⟨i3 a :: L⟩), H.bsOk Tryz.prog 26 1 [(0, .agg ⟨i3 a :: L⟩)] (.cells true (i3 a :: L)), appendD Tryz.prog (M.push (.cells true (i3 a :: L))) 26 26 acc (slc M.size none 1 1) = some r, bn .add 3 (i3 i) (i3 1) (i3 (i + 1))]) ∧
    evenX (z14 k lb sp n cap acc i a L off true r x M) := ⟨by kernel_rfl, by unfold evenX; kernel_rfl⟩
abbrev y14 (k : Nat) (ad : Option Addr) (n cap : Nat) (acc : Value) (i : Int) (x : Nat → Value) (M : Mem) :=
  pcZ (hAt (lkN [(8, .bool false)])) noA tn14 noQ (oTab tn14) Tryz.prog kp 1 k lb14 26 ds14 (fullN 26 (up x (ds14.zip [.slice ad n cap, acc, i3 i]))) M
theorem t14b (k : Nat) (ad : Option Addr) (n cap : Nat) (acc : Value) (i : Int) (x : Nat → Value) (M : Mem) : ansX (y14 k ad n cap acc i x M) = some ((.exit 0, [.slice ad n cap, acc, i3 i], M), [bn .lss 3 (i3 i) (i3 (Int.ofNat n)) (.bool false)]) ∧ evenX (y14 k ad n cap acc i x M) := ⟨by kernel_rfl, by unfold evenX; kernel_rfl⟩
/-! ### points in memory -/
abbrev PO := { p : Pt // p.s.Ok }
abbrev gP (p : PO) : List Value := ptC p.1
theorem gP_len (p : PO) : (gP p).length = 741 := ptC_len p.2
theorem gP_one (p : PO) : (gP p).all one = true := by
  show (true && (stC p.1.s).all one) = true
  rw [Bool.true_and, List.all_eq_true]
  intro v hv
  have := List.all_eq_true.1 (st_plain p.1.s) v hv
  cases v <;> first | rfl | cases this
theorem und26 : Tryz.prog.underlying 26 = some (.slice 51) := by kernel_rfl
theorem und55 : Tryz.prog.underlying 55 = some (.slice 62) := by kernel_rfl
theorem sz51 : szOf Tryz.prog 51 = some 741 := by kernel_rfl
theorem sz62 : szOf Tryz.prog 62 = some 741 := by kernel_rfl
theorem byt51 : bytesOf Tryz.prog 51 = some 5328 := by kernel_rfl
theorem zer51 : (zerosD Tryz.prog 51 1).isSome = true := by kernel_rfl
/-- A slice of one's own. -/
def Own (base : Nat) (M : Mem) (v : Value) (qs : List PO) : Prop := (qs = [] ∧ v = .slice none 0 0) ∨ (qs ≠ [] ∧ ∃ b, base ≤ b ∧ b < M.size ∧ v = slc b (some 741) qs.length qs.length ∧ M.get b = .cells true (qs.flatMap gP))
theorem flat_one (qs : List PO) : (qs.flatMap gP).all one = true := by
  rw [List.all_flatMap, List.all_eq_true]; intro p _; exact gP_one p
theorem ext_kill {M0 M : Mem} {b : Nat} {x : Blk} (h : Ext M0 M) (hb : M0.size ≤ b) (hlt : b < M.size) : Ext M0 (M.set b x) := ⟨h.size, fun j hj => by rw [Mem.get_set_ne _ (by omega)]; exact h.get j hj, fun ht j hj => by
  have hj : M.size ≤ j := hj
  rw [Mem.get_set_ne _ (by omega)]; exact h.top ht j hj⟩
/-- One point more. -/
theorem app_pt {M0 M : Mem} {acc : Value} {qs : List PO} (hx : Ext M0 M) (h : Own M0.size M acc qs) (q : PO) (hq : qs.length < 100000) :
    ∃ r : Value × Mem, appendD Tryz.prog (M.push (.cells true (gP q))) 26 26 acc (slc M.size none 1 1) = some r ∧ Own M0.size r.2 r.1 (qs ++ [q]) ∧ Ext M0 r.2 := by
  have hx1 : Ext M0 (M.push (.cells true (gP q))) := hx.trans (Ext.push _ _)
  have hf : firstC (M.push (.cells true (gP q))) 741 1 (slc M.size none 1 1) = some (gP q) := by
    show loadC (M.push (.cells true (gP q))) M.size 0 (1 * 741) = _
    exact loadC_at (rest := []) (by rw [List.append_nil]; exact Mem.get_push_same ..) (gP_len q)
  have hsz := hx.size
  rcases h with ⟨rfl, rfl⟩ | ⟨hne, b, h1, h2, rfl, h3⟩
  · have := append_nil (m := M.push (.cells true (gP q))) (x := slc M.size none 1 1) (n := 1) (new := gP q) und26 sz51 (by decide) byt51 (by decide) zer51 rfl (by decide) (by decide) hf (by rw [gP_len]) (gP_one q)
    refine ⟨_, this, .inr ⟨by simp, M.size + 1, by omega, ?_, rfl, ?_⟩, hx1.trans (Ext.push _ _)⟩
    · show M.size + 1 < M.size + 1 + 1; omega
    · show ((M.push _).push _).get (M.size + 1) = _
      have : (M.push (.cells true (gP q))).size = M.size + 1 := rfl
      rw [← this, Mem.get_push_same]
      simp
  · have hg : (M.push (.cells true (gP q))).get b = .cells true (qs.flatMap gP) := by rw [Mem.get_push_ne _ (by omega)]; exact h3
    have := append_own (m := M.push (.cells true (gP q))) (bk := b) (k := qs.length) (x := slc M.size none 1 1) (n := 1) (old := qs.flatMap gP) (new := gP q) und26 sz51 (by decide) byt51 (by decide) zer51 hg (chunk_len gP_len qs) (flat_one qs) rfl (by decide) (by omega) hf (by rw [gP_len]) (gP_one q)
    refine ⟨_, this, .inr ⟨by simp, M.size + 1, by omega, ?_, by simp, ?_⟩, ext_kill (hx1.trans (Ext.push _ _)) h1 (by show b < M.size + 1 + 1; omega)⟩
    · show M.size + 1 < M.size + 1 + 1; omega
    · show (((M.push _).push _).set b .none).get (M.size + 1) = _
      rw [Mem.get_set_ne _ (by omega)]
      have : (M.push (.cells true (gP q))).size = M.size + 1 := rfl
      rw [← this, Mem.get_push_same]
      simp
theorem set26 : SetLaw 26 := by
  intro x d v hd
  refine ⟨up x [(d, v)], ?_⟩
  iterate 26 (rcases d with _ | d; · kernel_rfl)
  omega
/-- Points that came in. -/
structure PtsAt (M : Mem) (v : Value) (ps : List PO) : Prop where
  ex : ∃ ad cap, v = .slice ad ps.length cap ∧ (ps ≠ [] → ∃ b sp own rest, ad = some ⟨b, 0, sp⟩ ∧ b < M.size ∧ M.get b = .cells own (ps.flatMap gP ++ rest))
theorem PtsAt.ext {M M' : Mem} {v : Value} {ps : List PO} (h : PtsAt M v ps) (x : Ext M M') : PtsAt M' v ps := by
  obtain ⟨ad, cap, h1, h2⟩ := h.ex
  refine ⟨ad, cap, h1, fun hne => ?_⟩
  obtain ⟨b, sp, own, rest, g1, g2, g3⟩ := h2 hne
  exact ⟨b, sp, own, rest, g1, Nat.lt_of_lt_of_le g2 x.size, (x.get b g2).trans g3⟩
theorem Own.at {base : Nat} {M : Mem} {v : Value} {qs : List PO} (h : Own base M v qs) : PtsAt M v qs := by
  rcases h with ⟨rfl, rfl⟩ | ⟨hne, b, h1, h2, rfl, h3⟩
  · exact ⟨none, 0, rfl, fun h => absurd rfl h⟩
  · exact ⟨_, _, rfl, fun _ => ⟨b, _, true, [], rfl, h2, by rw [List.append_nil]; exact h3⟩⟩
theorem ia55 {t : TypeId} {e : TypeId} (hu : Tryz.prog.underlying t = some (.slice e)) (hs : szOf Tryz.prog e = some 741) {b n cap i : Nat} {sp : Option Nat} (h : i < n) : indexAddrD Tryz.prog t (slc b sp n cap) (i3 (i : Int)) = some (po b (i * 741)) := by
  simp only [indexAddrD, hu, hs]
  rw [if_pos (by omega), Int.toNat_natCast, Nat.zero_add]
theorem pt_drop {ps : List PO} {i : Nat} {p : PO} (h : ps[i]? = some p) {rest : List Value} {own : Bool} {B : Blk} (hB : B = .cells own (ps.flatMap gP ++ rest)) : H.ldOk B (i * 741) true 741 (ptV p.1) ∧ H.ldOk B (i * 741) false 1 (i3 p.1.at_) ∧ H.ldOk B (Nat.add (i * 741) 1) true 740 (stV p.1.s) := by
  obtain ⟨r, hr⟩ := chunk_drop gP_len ps i p h
  have hi := (List.getElem?_eq_some_iff.1 h).1
  have hlen : (ps.flatMap gP).length = ps.length * 741 := chunk_len gP_len ps
  have hsplit : ps.flatMap gP ++ rest = (ps.flatMap gP).take (i * 741) ++ (ptC p.1 ++ (r ++ rest)) := by
    calc ps.flatMap gP ++ rest = ((ps.flatMap gP).take (i * 741) ++ (ps.flatMap gP).drop (i * 741)) ++ rest := by rw [List.take_append_drop]
      _ = _ := by rw [hr, List.append_assoc, List.append_assoc]
  have ht : ((ps.flatMap gP).take (i * 741)).length = i * 741 := by rw [List.length_take, hlen]; omega
  rw [hsplit] at hB
  have e3 : B = .cells own (((ps.flatMap gP).take (i * 741) ++ [i3 p.1.at_]) ++ (stC p.1.s ++ (r ++ rest))) := by
    rw [hB, List.append_assoc]; rfl
  have hl3 : ((ps.flatMap gP).take (i * 741) ++ [i3 p.1.at_]).length = Nat.add (i * 741) 1 := by rw [List.length_append, ht]; rfl
  exact ⟨ld_mid hB (ptC_len p.2) ht, ld_cell (c := stC p.1.s ++ (r ++ rest)) hB ht, ld_mid e3 (stC_len p.2) hl3⟩
noncomputable def fs51 : Array Field := match Tryz.prog.underlying 51 with
  | some (.struct f) => f
  | _ => #[]
noncomputable def z51 : List Value := match zeroOf Tryz.prog 51 with
  | some z => z.cells.toList
  | none => []
theorem und51 : Tryz.prog.underlying 51 = some (.struct fs51) := by kernel_rfl
theorem pl51_0 : placeS Tryz.prog fs51.toList 0 = some (0, 1) := by kernel_rfl
theorem pl51_1 : placeS Tryz.prog fs51.toList 1 = some (1, 740) := by kernel_rfl
theorem fsz51 : fieldsSized Tryz.prog fs51.toList = true := by kernel_rfl
theorem z51_len : z51.length = 741 := by kernel_rfl
theorem z51_eq : ∃ z, zeroOf Tryz.prog 51 = some z ∧ constV z = true ∧ z.cells.toList = z51 := by
  cases h : zeroOf Tryz.prog 51 with
  | none =>
    have h1 : (zeroOf Tryz.prog 51).isSome = true := by kernel_rfl
    rw [h] at h1; cases h1
  | some z =>
    refine ⟨z, rfl, ?_, ?_⟩
    · have h1 : (match zeroOf Tryz.prog 51 with | some z => constV z | none => false) = true := by kernel_rfl
      rw [h] at h1; exact h1
    · unfold z51; rw [h]
theorem splice_0 {c v : List Value} : splice c 0 v = v ++ c.drop v.length := by
  unfold splice
  rw [List.take_zero, List.nil_append, Nat.zero_add]
theorem bld51 {a : Int} {L : List Value} (h : L.length = 740) : buildD Tryz.prog 51 [(0, i3 a), (1, .agg ⟨L⟩)] = some (.agg ⟨i3 a :: L⟩) := by
  obtain ⟨z, h1, h2, h3⟩ := z51_eq
  obtain ⟨y, l, hz⟩ : ∃ y l, z51 = y :: l := by
    cases hz : z51 with
    | nil => have := z51_len; rw [hz] at this; cases this
    | cons y l => exact ⟨y, l, rfl⟩
  have hl : l.length = 740 := by have := z51_len; rw [hz] at this; simpa using this
  unfold buildD
  simp only [h1, h2, if_true, und51, fsz51, h3]
  have e1 : (i3 a).cells.toList = [i3 a] := rfl
  have e2 : (Value.agg ⟨L⟩).cells.toList = L := rfl
  simp only [fillD, pl51_0, pl51_1, e1, e2]
  rw [if_pos ⟨rfl, by rw [z51_len]; exact (by decide : 0 + 1 ≤ 741)⟩]
  have e3 : splice z51 0 [i3 a] = i3 a :: l := by rw [splice_0, hz]; rfl
  rw [e3, if_pos ⟨h, by rw [List.length_cons, hl, h]; decide⟩]
  have e4 : splice (i3 a :: l) 1 L = i3 a :: L := by
    unfold splice
    rw [List.drop_eq_nil_of_le (by rw [List.length_cons, hl, h]; decide)]
    simp
  rw [e4]
theorem bs26 {p : PO} : H.bsOk Tryz.prog 26 1 [(0, ptV p.1)] (.cells true (gP p)) := fun G t pa hp => by
  have hz : ∃ zs, zerosD Tryz.prog 51 1 = some zs ∧ zs.length = 741 := by
    cases h : zerosD Tryz.prog 51 1 with
    | none => have := zer51; rw [h] at this; cases this
    | some zs =>
      refine ⟨zs, rfl, ?_⟩
      have h1 : (match zerosD Tryz.prog 51 1 with | some zs => zs.length | none => 0) = 741 := by kernel_rfl
      rw [h] at h1; exact h1
  obtain ⟨zs, h1, h2⟩ := hz
  have e1 : (ptV p.1).cells.toList = gP p := rfl
  have e2 : splice zs 0 (gP p) = gP p := by
    rw [splice_0, List.drop_eq_nil_of_le (by rw [h2, gP_len]; decide), List.append_nil]
  simp only [allocD, und26, sz51, h1, hp, fillD, e1]
  rw [if_pos (by decide), if_pos ⟨gP_len p, by rw [h2, gP_len]; decide⟩]
  simp only [Nat.zero_mul, e2]
abbrev fr14 (v acc : Value) (i : Nat) (x : Nat → Value) : Tmps := fullN 26 (up x (ds14.zip [v, acc, i3 (i : Int)]))
abbrev cd14 (k : Nat) : Tmps → Mem → Option (Ex × Tmps × Mem) := codeD Tryz.prog kp 1 (oTab tn14) (drawD Tryz.prog kp 1 (oTab tn14) 26) 26 k lb14
theorem pts_loop {M0 : Mem} {v : Value} {ps : List PO} (hn : ps.length < 100000) (hv : PtsAt M0 v ps) (k : Nat) : ∀ (d i j : Nat) (acc : Value) (x : Nat → Value) (M : Mem), ps.length = i + d → d + 1 ≤ j → Ext M0 M → Own M0.size M acc (ps.take i) →
    ∃ x' acc' M', Ext M0 M' ∧ Own M0.size M' acc' ps ∧ loopD (cd14 k) j (fr14 v acc i x) M = some (.exit 0, fr14 v acc' ps.length x', M')
  | 0, i, j, acc, x, M, hi, hj, hx, ho => by
    obtain ⟨j, rfl⟩ : ∃ j', j = j' + 1 := ⟨j - 1, by omega⟩
    obtain rfl : i = ps.length := by omega
    rw [List.take_length] at ho
    obtain ⟨ad, cap, rfl, _⟩ := hv.ex
    have hl := lt3 (ps.length : Int) (Int.ofNat ps.length)
    rw [decide_eq_false (show ¬ ((ps.length : Int) < Int.ofNat ps.length) from Int.lt_irrefl _)] at hl
    obtain ⟨x', h⟩ := pcZ_full (tells_tab tn14) set26 rfl (t14b k ad ps.length cap acc (ps.length : Int) x M).1 (t14b k ad ps.length cap acc (ps.length : Int) x M).2 (one_p hl)
    exact ⟨x', acc, M, hx, ho, loopD_stop h (by simp)⟩
  | d + 1, i, j, acc, x, M, hi, hj, hx, ho => by
    obtain ⟨j, rfl⟩ : ∃ j', j = j' + 1 := ⟨j - 1, by omega⟩
    have hlt : i < ps.length := by omega
    obtain ⟨p, hp⟩ : ∃ p, ps[i]? = some p := ⟨_, List.getElem?_eq_getElem hlt⟩
    obtain ⟨ad, cap, ev, hne⟩ := hv.ex
    obtain ⟨b, sp, own, rest, rfl, g2, g3⟩ := hne (by rintro rfl; simp at hlt)
    subst ev
    have hl := lt3 (i : Int) (Int.ofNat ps.length)
    rw [decide_eq_true (show (i : Int) < Int.ofNat ps.length from Int.ofNat_lt.2 hlt)] at hl
    obtain ⟨q1, q2, q3⟩ := pt_drop hp ((hx.get b g2).trans g3)
    obtain ⟨r, a1, a2, a3⟩ := app_pt hx ho p (by rw [List.length_take]; omega)
    obtain ⟨x', h⟩ := pcZ_full (tells_tab tn14) set26 rfl (t14a k b sp ps.length cap acc (i : Int) p.1.at_ (stC p.1.s) (i * 741) r x M).1 (t14a k b sp ps.length cap acc (i : Int) p.1.at_ (stC p.1.s) (i * 741) r x M).2
      (cons_p hl (cons_p (ia55 und55 sz62 hlt) (cons_p q2 (cons_p (ia55 und55 sz62 hlt) (cons_p q3 (cons_p (bld51 (stC_len p.2)) (cons_p bs26 (cons_p a1 (one_p (add3 (by omega)))))))))))
    have ht : ps.take (i + 1) = ps.take i ++ [p] := by
      rw [List.take_add_one, hp]; rfl
    rw [← ht] at a2
    obtain ⟨x2, acc2, M2, b1, b2, b3⟩ := pts_loop hn hv k d (i + 1) j r.1 x' r.2 (by omega) (by omega) a3 a2
    exact ⟨x2, acc2, M2, b1, b2, loopD_next h b3⟩
/-! ### the whole -/
theorem drop14 : (items (bodyOf Tryz.f14)).drop 3 = [.block 0 (.loop lb14), .region 6 (regA (bodyOf Tryz.f14) 6) false, .ret] := by kernel_rfl
noncomputable abbrev pA14 : Code := seqL ((items (bodyOf Tryz.f14)).take 3)
theorem t14i (k : Nat) (v : Value) (M : Mem) : ansX (pcZ (hAt noAt) noA tn14 noQ (oTab tn14) Tryz.prog kp 1 k pA14 26 ds14 (fullN 26 (argX [v])) M) = some ((.normal, [v, .slice none 0 0, i3 0], M), []) ∧ evenX (pcZ (hAt noAt) noA tn14 noQ (oTab tn14) Tryz.prog kp 1 k pA14 26 ds14 (fullN 26 (argX [v])) M) := ⟨by kernel_rfl, by unfold evenX; kernel_rfl⟩
theorem t14z (k : Nat) (v acc i : Value) (x : Nat → Value) (M : Mem) : ansX (pcZ (hAt noAt) noA tn14 noQ (oTab tn14) Tryz.prog kp 1 k (seqL [.region 6 (regA (bodyOf Tryz.f14) 6) false, .ret]) 26 [2] (fullN 26 (up x (ds14.zip [v, acc, i]))) M) = some ((.ret, [acc], M), []) ∧ evenX (pcZ (hAt noAt) noA tn14 noQ (oTab tn14) Tryz.prog kp 1 k (seqL [.region 6 (regA (bodyOf Tryz.f14) 6) false, .ret]) 26 [2] (fullN 26 (up x (ds14.zip [v, acc, i]))) M) := ⟨by kernel_rfl, by unfold evenX; kernel_rfl⟩
theorem res14 (x : Nat → Value) (a : Value) (M : Mem) : resD Tryz.prog (fullN 26 (up x [(2, a)])) M Tryz.f14.results.toList = some [a] := by kernel_rfl
/-- stockadelaw15.Points: the same points, of one's own. -/
theorem points_at {M : Mem} {v : Value} {ps : List PO} (hn : ps.length < 100000) (hv : PtsAt M v ps) {k : Nat} (hk : ps.length + 1 ≤ k) : ∃ acc M', Ext M M' ∧ Own M.size M' acc ps ∧ bodyN Tryz.prog kp 1 (oTab tn14) k 14 [v] M = some (acc, M') := by
  obtain ⟨x1, h1⟩ := pcZ_full (tells_tab tn14) set26 rfl (t14i k v M).1 (t14i k v M).2 nil_p
  obtain ⟨x2, acc, M', a1, a2, a3⟩ := pts_loop hn hv k ps.length 0 k (.slice none 0 0) x1 M (by omega) (by omega) (Ext.refl _) (.inl ⟨rfl, rfl⟩)
  have h3 := code_loop 3 (bodyOf Tryz.f14) drop14 h1 a3
  obtain ⟨x4, h4⟩ := pcZ_full (tells_tab tn14) set26 rfl (t14z k v acc (i3 (ps.length : Int)) x2 M').1 (t14z k v acc (i3 (ps.length : Int)) x2 M').2 nil_p
  exact ⟨acc, M', a1, a2, bodyN_of (fnE 14 Tryz.f14) (by kernel_rfl) (by kernel_rfl) (h3.trans h4) (res14 ..)⟩
end
end Go.Proofs.YtipdeijgaabobaaGreatDoor
/-
  FPlc: cert.places: a round.
-/
namespace Go.Proofs.YtipdeijgaabobaaGreatDoor
open Go Go.DI Go.DI.Kit Go.Proofs Go.Crt
noncomputable section
noncomputable def lb45 : Code := loopN Tryz.f45 0
abbrev ds45 : List Nat := [3, 7, 8, 9]
abbrev mpV (b : Nat) : Value := .map (some b)
abbrev pm1 (M : Mem) (c : List Value) : Mem := (M.push (.cells true z51)).set M.size (.cells true c)
abbrev pm2 (M : Mem) (c : List Value) (i : Int) : Mem := (pm1 M c).push (.cells true [i3 i])
def h45 (lb off mb : Nat) (c : List Value) (a i : Int) (w : Value) (lt : Bool) (r : Value × Mem) (y : Blk) : H.Hint :=
  { hAt (lkN [(10, .bool lt), (12, po lb off), (13, .agg ⟨c⟩), (16, i3 a), (19, i3 a), (20, w), (24, i3 (i + 1))]) with stO := fun _ _ => some (.cells true c), apO := fun _ => some r, mu := fun _ => some y }
abbrev zz45 (k lb off mb : Nat) (sp : Option Nat) (n cap : Nat) (c : List Value) (a i : Int) (w : Value) (lt : Bool) (r : Value × Mem) (y : Blk) (x : Nat → Value) (M : Mem) :=
  pcZ (h45 lb off mb c a i w lt r y) noA tn14 noQ (oTab tn14) Tryz.prog kp 1 k lb45 26 ds45 (fullN 26 (up x (ds45.zip [mpV mb, slc lb sp n cap, i3 (Int.ofNat n), i3 i]))) M
theorem t45a (k lb off mb : Nat) (sp : Option Nat) (n cap : Nat) (c : List Value) (a i : Int) (w : Value) (r : Value × Mem) (y : Blk) (x : Nat → Value) (M : Mem) : ansX (zz45 k lb off mb sp n cap c a i w true r y x M) =
    some ((.normal, [mpV mb, slc lb sp n cap, i3 (Int.ofNat n), i3 (i + 1)], r.2.set mb y), [bn .lss 3 (i3 i) (i3 (Int.ofNat n)) (.bool true), indexAddrD Tryz.prog 26 (slc lb sp n cap) (i3 i) = some (po lb off), H.ldOk (M.get lb) off true 741 (.agg ⟨c⟩), H.stOk Tryz.prog ((M.push (.cells true z51)).get M.size) 51 0 (.agg ⟨c⟩) (.cells true c),
      H.ldOk ((pm1 M c).get M.size) 0 false 1 (i3 a), H.ldOk ((pm1 M c).get M.size) 0 false 1 (i3 a), lookupD Tryz.prog kp (pm1 M c) 101 (mpV mb) (i3 a) false = some w, appendD Tryz.prog (pm2 M c i) 104 104 w (slc (M.size + 1) none 1 1) = some r, mapUpdateD Tryz.prog kp r.2 101 (mpV mb) (i3 a) r.1 = some (r.2.set mb y), H.ldOk (r.2.get M.size) 0 false 1 (i3 a), bn .add 3 (i3 i) (i3 1) (i3 (i + 1))]) ∧
    evenX (zz45 k lb off mb sp n cap c a i w true r y x M) := ⟨by kernel_rfl, by unfold evenX; kernel_rfl⟩
abbrev y45 (k mb : Nat) (ad : Option Addr) (n cap : Nat) (i : Int) (x : Nat → Value) (M : Mem) :=
  pcZ (hAt (lkN [(10, .bool false)])) noA tn14 noQ (oTab tn14) Tryz.prog kp 1 k lb45 26 ds45 (fullN 26 (up x (ds45.zip [mpV mb, .slice ad n cap, i3 (Int.ofNat n), i3 i]))) M
theorem t45b (k mb : Nat) (ad : Option Addr) (n cap : Nat) (i : Int) (x : Nat → Value) (M : Mem) : ansX (y45 k mb ad n cap i x M) = some ((.exit 0, [mpV mb, .slice ad n cap, i3 (Int.ofNat n), i3 i], M), [bn .lss 3 (i3 i) (i3 (Int.ofNat n)) (.bool false)]) ∧ evenX (y45 k mb ad n cap i x M) := ⟨by kernel_rfl, by unfold evenX; kernel_rfl⟩
theorem drop45 : (items (bodyOf Tryz.f45)).drop 3 = [.block 0 (.loop lb45), .region 7 (regA (bodyOf Tryz.f45) 7) false, .ret] := by kernel_rfl
noncomputable abbrev pA45 : Code := seqL ((items (bodyOf Tryz.f45)).take 3)
theorem t45i (k : Nat) (ad : Option Addr) (n cap : Nat) (M : Mem) : ansX (pcZ (hAt noAt) noA tn14 noQ (oTab tn14) Tryz.prog kp 1 k pA45 26 ds45 (fullN 26 (argX [.slice ad n cap])) M) = some ((.normal, [mpV M.size, .slice ad n cap, i3 (Int.ofNat n), i3 0], M.push (.map true [] 0)), []) ∧ evenX (pcZ (hAt noAt) noA tn14 noQ (oTab tn14) Tryz.prog kp 1 k pA45 26 ds45 (fullN 26 (argX [.slice ad n cap])) M) := ⟨by kernel_rfl, by unfold evenX; kernel_rfl⟩
theorem t45z (k : Nat) (m v n i : Value) (x : Nat → Value) (M : Mem) : ansX (pcZ (hAt noAt) noA tn14 noQ (oTab tn14) Tryz.prog kp 1 k (seqL [.region 7 (regA (bodyOf Tryz.f45) 7) false, .ret]) 26 [2] (fullN 26 (up x (ds45.zip [m, v, n, i]))) M) = some ((.ret, [m], M), []) ∧ evenX (pcZ (hAt noAt) noA tn14 noQ (oTab tn14) Tryz.prog kp 1 k (seqL [.region 7 (regA (bodyOf Tryz.f45) 7) false, .ret]) 26 [2] (fullN 26 (up x (ds45.zip [m, v, n, i]))) M) := ⟨by kernel_rfl, by unfold evenX; kernel_rfl⟩
end
end Go.Proofs.YtipdeijgaabobaaGreatDoor
/-
  FPlc2: cert.places: the points' numbers by their places.
-/
namespace Go.Crt
/-- The numbers, below j, of the points at a place. -/
def idx (ps : List Pt) (j : Nat) (a : Int) : List Nat := (List.range j).filter fun i => match ps[i]? with
  | some p => decide (p.at_ = a)
  | none => false
theorem idx_succ {ps : List Pt} {j : Nat} {p : Pt} (h : ps[j]? = some p) (a : Int) : idx ps (j + 1) a = if p.at_ = a then idx ps j a ++ [j] else idx ps j a := by
  unfold idx
  rw [List.range_succ, List.filter_append]
  by_cases e : p.at_ = a
  · rw [if_pos e]
    congr 1
    simp [h, e]
  · rw [if_neg e]
    simp [h, e]
theorem idx_lt {ps : List Pt} {j : Nat} {a : Int} {i : Nat} (h : i ∈ idx ps j a) : i < j := List.mem_range.1 (List.mem_filter.1 h).1
end Go.Crt
namespace Go.Proofs.YtipdeijgaabobaaGreatDoor
open Go Go.DI Go.DI.Kit Go.Proofs Go.Crt
noncomputable section
abbrev nI (is : List Nat) : List Value := is.map fun (i : Nat) => i3 (i : Int)
/-- A slice of numbers. -/
def IdxAt (M : Mem) (w : Value) (is : List Nat) : Prop := (is = [] ∧ w = .slice none 0 0) ∨ (is ≠ [] ∧ ∃ b, b < M.size ∧ w = slc b (some 1) is.length is.length ∧ M.get b = .cells true (nI is))
structure Ent where
  a : Int
  b : Nat
  is : List Nat
  born : Nat
def eE (e : Ent) : MapEntry := { key := i3 e.a, val := slc e.b (some 1) e.is.length e.is.length, born := e.born }
structure Plx (base : Nat) (M : Mem) (mb : Nat) (ps : List Pt) (j : Nat) (es : List Ent) (clock : Nat) : Prop where
  get : M.get mb = .map true (es.map eE) clock
  lo : base ≤ mb
  hi : mb < M.size
  ka : (es.map Ent.a).Nodup
  kb : (es.map Ent.b).Nodup
  en : ∀ e ∈ es, base ≤ e.b ∧ e.b < M.size ∧ e.b ≠ mb ∧ M.get e.b = .cells true (nI e.is) ∧ e.is ≠ [] ∧ e.is = idx ps j e.a
  all : ∀ a, idx ps j a ≠ [] → ∃ e ∈ es, e.a = a
theorem und101 : Tryz.prog.underlying 101 = some (.map 3 104) := by kernel_rfl
theorem und104 : Tryz.prog.underlying 104 = some (.slice 3) := by kernel_rfl
theorem keyI (a : Int) : keyOk Tryz.prog 100 3 (i3 a) = true := by kernel_rfl
theorem feqI (a b : Int) : feq Tryz.prog kp 100 3 (i3 a) (i3 b) = some (a == b) := by kernel_rfl
theorem shp104 (b : Nat) (n c : Nat) : shp Tryz.prog 104 (slc b (some 1) n c) = true := by kernel_rfl
theorem zero104 : zeroOf Tryz.prog 104 = some (.slice none 0 0) := by kernel_rfl
theorem find_none {k : Int} : ∀ {es : List Ent} (i : Nat), (∀ e ∈ es, e.a ≠ k) → findD Tryz.prog kp 3 (i3 k) (es.map eE) i = some none
  | [], _, _ => rfl
  | e :: es, i, h => by
    have h1 : (k == e.a) = false := beq_eq_false_iff_ne.2 fun q => h e (List.mem_cons_self ..) q.symm
    simp only [List.map_cons, findD]
    rw [show (eE e).key = i3 e.a from rfl, feqI, h1]
    exact find_none (i + 1) fun x hx => h x (List.mem_cons_of_mem _ hx)
theorem find_some {k : Int} : ∀ {es : List Ent} (i p : Nat) {e : Ent}, es[p]? = some e → e.a = k → (es.map Ent.a).Nodup → findD Tryz.prog kp 3 (i3 k) (es.map eE) i = some (some (i + p, (eE e).val))
  | [], _, _, _, h, _, _ => by simp at h
  | x :: es, i, 0, e, h, hk, hn => by
    simp at h
    subst h
    simp only [List.map_cons, findD]
    rw [show (eE x).key = i3 x.a from rfl, feqI, hk]
    simp
  | x :: es, i, p + 1, e, h, hk, hn => by
    have h : es[p]? = some e := by simpa using h
    rw [List.map_cons, List.nodup_cons] at hn
    have h1 : (k == x.a) = false := beq_eq_false_iff_ne.2 fun q => hn.1 (by rw [← q, ← hk]; exact List.mem_map_of_mem (List.mem_of_getElem? h))
    simp only [List.map_cons, findD]
    rw [show (eE x).key = i3 x.a from rfl, feqI, h1]
    have := find_some (i + 1) p h hk hn.2
    simp only at this ⊢
    rw [this]
    congr 3
    omega
section
variable {base : Nat} {M : Mem} {mb : Nat} {ps : List Pt} {j : Nat} {es : List Ent} {clock : Nat}
theorem Plx.find (h : Plx base M mb ps j es clock) (a : Int) : (idx ps j a = [] ∧ (∀ e ∈ es, e.a ≠ a)) ∨ ∃ (p : Nat) (e : Ent), es[p]? = some e ∧ e.a = a := by
  by_cases hc : ∃ e ∈ es, e.a = a
  · obtain ⟨e, he, hk⟩ := hc
    obtain ⟨p, hp⟩ := List.getElem?_of_mem he
    exact .inr ⟨p, e, hp, hk⟩
  · left
    refine ⟨?_, fun e he hk => hc ⟨e, he, hk⟩⟩
    cases hi : idx ps j a with
    | nil => rfl
    | cons x l => exact absurd (h.all a (by rw [hi]; simp)) hc
/-- What the map tells of a place. -/
theorem Plx.lookup (h : Plx base M mb ps j es clock) (a : Int) : ∃ w, lookupD Tryz.prog kp M 101 (mpV mb) (i3 a) false = some w ∧ IdxAt M w (idx ps j a) := by
  rcases h.find a with ⟨h1, h2⟩ | ⟨p, e, h1, h2⟩
  · refine ⟨.slice none 0 0, ?_, .inl ⟨h1, rfl⟩⟩
    simp only [lookupD, und101, entriesD, h.get, keyI, if_true, find_none 0 h2, zero104]
    rfl
  · have he := h.en e (List.mem_of_getElem? h1)
    refine ⟨slc e.b (some 1) e.is.length e.is.length, ?_, .inr ⟨?_, e.b, he.2.1, ?_, ?_⟩⟩
    · simp only [lookupD, und101, entriesD, h.get, keyI, if_true, find_some 0 p h1 h2 h.ka]
      show cond (shp Tryz.prog 104 (slc e.b (some 1) e.is.length e.is.length)) _ _ = _
      rw [shp104]; rfl
    · rw [← h2, ← he.2.2.2.2.2]; exact he.2.2.2.2.1
    · rw [← h2, ← he.2.2.2.2.2]
    · rw [← h2, ← he.2.2.2.2.2]; exact he.2.2.2.1
theorem Plx.grow (h : Plx base M mb ps j es clock) {M' : Mem} (hx : Ext M M') : Plx base M' mb ps j es clock :=
  ⟨(hx.get mb h.hi).trans h.get, h.lo, Nat.lt_of_lt_of_le h.hi hx.size, h.ka, h.kb, fun e he => by
    obtain ⟨a1, a2, a3, a4, a5, a6⟩ := h.en e he
    exact ⟨a1, Nat.lt_of_lt_of_le a2 hx.size, a3, (hx.get _ a2).trans a4, a5, a6⟩, h.all⟩
end
theorem IdxAt.ext {M M' : Mem} {w : Value} {is : List Nat} (h : IdxAt M w is) (hx : Ext M M') : IdxAt M' w is := by
  rcases h with h | ⟨h1, b, h2, h3, h4⟩
  · exact .inl h
  · exact .inr ⟨h1, b, Nat.lt_of_lt_of_le h2 hx.size, h3, (hx.get b h2).trans h4⟩
theorem sz3 : szOf Tryz.prog 3 = some 1 := by kernel_rfl
theorem byt3 : bytesOf Tryz.prog 3 = some 8 := by kernel_rfl
theorem zer3 : (zerosD Tryz.prog 3 1).isSome = true := by kernel_rfl
theorem nI_one (is : List Nat) : (nI is).all one = true := by rw [List.all_map, List.all_eq_true]; intro i _; rfl
theorem modE_map {k : Int} {v : Value} : ∀ {es : List Ent} {p : Nat} {e : Ent} {e' : Ent}, es[p]? = some e → eE e' = { eE e with key := i3 k, val := v } → modE p (i3 k) v (es.map eE) = (es.set p e').map eE
  | [], p, e, e', h, _ => by simp at h
  | x :: es, 0, e, e', h, hv => by
    simp at h
    subst h
    show ({ eE x with key := i3 k, val := v } :: es.map eE) = _
    rw [← hv]; rfl
  | x :: es, p + 1, e, e', h, hv => by
    have h : es[p]? = some e := by simpa using h
    show eE x :: modE p (i3 k) v (es.map eE) = _
    rw [modE_map h hv]; rfl
theorem set_same {A : Type} {l : List A} {i : Nat} {x : A} (h : l[i]? = some x) : l.set i x = l := by
  induction l generalizing i with
  | nil => simp at h
  | cons a l ih =>
    cases i with
    | zero => simp at h; subst h; rfl
    | succ i => show a :: l.set i x = _; rw [ih (by simpa using h)]
theorem nodup_set {l : List Nat} {i x : Nat} (h : l.Nodup) (hx : x ∉ l) : (l.set i x).Nodup := by
  induction l generalizing i with
  | nil => simp
  | cons a l ih =>
    rw [List.nodup_cons] at h
    rw [List.mem_cons, not_or] at hx
    cases i with
    | zero =>
      show (x :: l).Nodup
      exact List.nodup_cons.2 ⟨hx.2, h.2⟩
    | succ i =>
      show (a :: l.set i x).Nodup
      refine List.nodup_cons.2 ⟨fun hm => ?_, ih h.2 hx.2⟩
      rcases List.mem_or_eq_of_mem_set hm with q | q
      · exact h.1 q
      · exact hx.1 q.symm
theorem sameI (a b : Int) : Instr.sameBits 10000 (i3 a) (i3 b) = (a == b) := by
  show (IntKind.i64 == IntKind.i64 && a == b) = (a == b)
  rfl
theorem firstI {M : Mem} {j : Nat} : firstC (M.push (.cells true [i3 (j : Int)])) 1 1 (slc M.size none 1 1) = some [i3 (j : Int)] := by
  show loadC (M.push (.cells true [i3 (j : Int)])) M.size 0 (1 * 1) = _
  exact loadC_at (rest := []) (by rw [List.append_nil]; exact Mem.get_push_same ..) rfl
section
variable {base : Nat} {M : Mem} {mb : Nat} {ps : List Pt} {j : Nat} {es : List Ent} {clock : Nat}
/-- One point more. -/
theorem Plx.put (h : Plx base M mb ps j es clock) {p : Pt} (hp : ps[j]? = some p) (hj : j < 100000) {c : List Value} (hb : base ≤ M.size) :
    ∃ (w : Value) (r : Value × Mem) (y : Blk) (es' : List Ent) (clock' : Nat), lookupD Tryz.prog kp (pm1 M c) 101 (mpV mb) (i3 p.at_) false = some w ∧ appendD Tryz.prog (pm2 M c (j : Int)) 104 104 w (slc (M.size + 1) none 1 1) = some r ∧
      mapUpdateD Tryz.prog kp r.2 101 (mpV mb) (i3 p.at_) r.1 = some (r.2.set mb y) ∧ Plx base (r.2.set mb y) mb ps (j + 1) es' clock' ∧ r.2.get M.size = .cells true c ∧ M.size ≤ r.2.size ∧ (∀ i, i < base → (r.2.set mb y).get i = M.get i) ∧ (M.top → (r.2.set mb y).top) := by
  have x1 : Ext M (pm1 M c) := Ext.fresh
  have x2 : Ext M (pm2 M c (j : Int)) := x1.trans (Ext.push _ _)
  have s1 : (pm1 M c).size = M.size + 1 := rfl
  have s2 : (pm2 M c (j : Int)).size = M.size + 2 := rfl
  have gc : (pm2 M c (j : Int)).get M.size = .cells true c := by
    rw [Mem.get_push_ne _ (by rw [s1]; omega)]; exact Mem.get_set_same ..
  have h1 := h.grow x1
  have h2 := h.grow x2
  have hf : firstC (pm2 M c (j : Int)) 1 1 (slc (M.size + 1) none 1 1) = some [i3 (j : Int)] := firstI (M := pm1 M c)
  have hix := idx_succ hp
  rcases h1.find p.at_ with ⟨e1, e2⟩ | ⟨q, e, e1, e2⟩
  · refine ⟨.slice none 0 0, (slc (M.size + 2) (some 1) 1 1, (pm2 M c (j : Int)).push (.cells true [i3 (j : Int)])), .map true ((es ++ [Ent.mk p.at_ (M.size + 2) [j] clock]).map eE) (clock + 1), es ++ [Ent.mk p.at_ (M.size + 2) [j] clock], clock + 1, ?_, ?_, ?_, ?_, ?_, ?_, ?_, ?_⟩
    · simp only [lookupD, und101, entriesD, h1.get, keyI, if_true, find_none 0 e2, zero104]
      rfl
    · exact append_nil (m := pm2 M c (j : Int)) (x := slc (M.size + 1) none 1 1) (n := 1) (new := [i3 (j : Int)]) und104 sz3 (by decide) byt3 (by decide) zer3 rfl (by decide) (by decide) hf rfl rfl
    · have hg : ((pm2 M c (j : Int)).push (.cells true [i3 (j : Int)])).get mb = .map true (es.map eE) clock := by
        rw [Mem.get_push_ne _ (by rw [s2]; have := h.hi; omega)]; exact h2.get
      simp only [mapUpdateD, und101, hg, keyI, if_true, find_none 0 e2, List.map_append]
      rfl
    · have hnew : ∀ {i : Nat}, i < M.size → i ≠ mb → (((pm2 M c (j : Int)).push (.cells true [i3 (j : Int)])).set mb (.map true ((es ++ [Ent.mk p.at_ (M.size + 2) [j] clock]).map eE) (clock + 1))).get i = M.get i := fun {i} hi hne => by
        rw [Mem.get_set_ne _ hne, Mem.get_push_ne _ (by rw [s2]; omega)]; exact x2.get i hi
      have hmb := h.hi
      refine ⟨Mem.get_set_same .., h.lo, ?_, ?_, ?_, fun e he => ?_, fun a ha => ?_⟩
      · show mb < M.size + 2 + 1; omega
      · rw [List.map_append, List.nodup_append]
        refine ⟨h.ka, by simp, fun a ha b hb => ?_⟩
        simp at hb
        subst hb
        obtain ⟨e, he, rfl⟩ := List.mem_map.1 ha
        exact e2 e he
      · rw [List.map_append, List.nodup_append]
        refine ⟨h.kb, by simp, fun a ha b hb => ?_⟩
        simp at hb
        subst hb
        obtain ⟨e, he, rfl⟩ := List.mem_map.1 ha
        have := (h.en e he).2.1
        omega
      · rcases List.mem_append.1 he with he | he
        · obtain ⟨a1, a2, a3, a4, a5, a6⟩ := h.en e he
          refine ⟨a1, ?_, a3, (hnew a2 a3).trans a4, a5, ?_⟩
          · show e.b < M.size + 2 + 1; omega
          · rw [hix, if_neg (fun q => e2 e he q.symm)]; exact a6
        · simp at he
          subst he
          refine ⟨by show base ≤ M.size + 2; omega, by show M.size + 2 < M.size + 2 + 1; omega, by show M.size + 2 ≠ mb; omega, ?_, by simp, ?_⟩
          · show (((pm2 M c (j : Int)).push _).set mb _).get (M.size + 2) = _
            rw [Mem.get_set_ne _ (by omega), ← s2, Mem.get_push_same]; rfl
          · rw [hix, if_pos rfl, e1]; rfl
      · by_cases hk : p.at_ = a
        · exact ⟨Ent.mk p.at_ (M.size + 2) [j] clock, by simp, hk⟩
        · rw [hix, if_neg hk] at ha
          obtain ⟨e, he, hk2⟩ := h.all a ha
          exact ⟨e, List.mem_append.2 (.inl he), hk2⟩
    · show ((pm2 M c (j : Int)).push _).get M.size = _
      rw [Mem.get_push_ne _ (by rw [s2]; omega)]; exact gc
    · show M.size ≤ M.size + 2 + 1; omega
    · intro i hi
      have := h.lo
      have := h.hi
      show (((pm2 M c (j : Int)).push _).set mb _).get i = _
      rw [Mem.get_set_ne _ (by omega), Mem.get_push_ne _ (by rw [s2]; omega)]; exact x2.get i (by omega)
    · intro ht i hi
      have hi : M.size + 2 + 1 ≤ i := hi
      have := h.hi
      show (((pm2 M c (j : Int)).push _).set mb _).get i = _
      rw [Mem.get_set_ne _ (by omega), Mem.get_push_ne _ (by rw [s2]; omega)]; exact x2.top ht i (by rw [s2]; omega)
  · have he := List.mem_of_getElem? e1
    obtain ⟨a1, a2, a3, a4, a5, a6⟩ := h.en e he
    have hmb := h.hi
    have hlo := h.lo
    have hq := (List.getElem?_eq_some_iff.1 e1).1
    have hlen : e.is.length ≤ j := by
      rw [a6]
      unfold idx
      exact Nat.le_trans (List.length_filter_le _ _) (by rw [List.length_range]; exact Nat.le_refl _)
    refine ⟨slc e.b (some 1) e.is.length e.is.length, (slc (M.size + 2) (some 1) (e.is.length + 1) (e.is.length + 1), ((pm2 M c (j : Int)).push (.cells true (nI e.is ++ [i3 (j : Int)]))).set e.b .none), .map true ((es.set q (Ent.mk e.a (M.size + 2) (e.is ++ [j]) e.born)).map eE) clock, es.set q (Ent.mk e.a (M.size + 2) (e.is ++ [j]) e.born), clock, ?_, ?_, ?_, ?_, ?_, ?_, ?_, ?_⟩
    · simp only [lookupD, und101, entriesD, h1.get, keyI, if_true, find_some 0 q e1 e2 h.ka]
      show cond (shp Tryz.prog 104 (slc e.b (some 1) e.is.length e.is.length)) _ _ = _
      rw [shp104]; rfl
    · have := append_own (m := pm2 M c (j : Int)) (bk := e.b) (k := e.is.length) (x := slc (M.size + 1) none 1 1) (n := 1) (old := nI e.is) (new := [i3 (j : Int)]) und104 sz3 (by decide) byt3 (by decide) zer3 ((x2.get _ a2).trans a4) (by simp) (nI_one _) rfl (by decide) (by omega) hf rfl rfl
      exact this
    · have hg : (((pm2 M c (j : Int)).push (.cells true (nI e.is ++ [i3 (j : Int)]))).set e.b .none).get mb = .map true (es.map eE) clock := by
        rw [Mem.get_set_ne _ (fun q => a3 q.symm), Mem.get_push_ne _ (by rw [s2]; omega)]; exact h2.get
      have hget : (es.map eE)[q]? = some (eE e) := by rw [List.getElem?_map, e1]; rfl
      have hsb : Instr.sameBits 10000 (eE e).key (i3 p.at_) = true := by
        rw [show (eE e).key = i3 e.a from rfl, sameI, e2]; simp
      have hm := modE_map (k := p.at_) (v := slc (M.size + 2) (some 1) (e.is.length + 1) (e.is.length + 1)) e1 (e' := (Ent.mk e.a (M.size + 2) (e.is ++ [j]) e.born)) (by
        rw [← e2]
        unfold eE
        simp only [List.length_append, List.length_singleton])
      simp only [mapUpdateD, und101, hg, keyI, if_true, find_some 0 q e1 e2 h.ka, Nat.zero_add, hget, hsb, hm]
    · have hnew : ∀ {i : Nat}, i < M.size → i ≠ mb → i ≠ e.b → ((((pm2 M c (j : Int)).push (.cells true (nI e.is ++ [i3 (j : Int)]))).set e.b .none).set mb (.map true ((es.set q (Ent.mk e.a (M.size + 2) (e.is ++ [j]) e.born)).map eE) clock)).get i = M.get i := fun {i} hi hne hnb => by
        rw [Mem.get_set_ne _ hne, Mem.get_set_ne _ hnb, Mem.get_push_ne _ (by rw [s2]; omega)]; exact x2.get i hi
      have hset : ∀ {x : Ent}, x ∈ es.set q (Ent.mk e.a (M.size + 2) (e.is ++ [j]) e.born) → x = (Ent.mk e.a (M.size + 2) (e.is ++ [j]) e.born) ∨ (x ∈ es ∧ x.a ≠ e.a ∧ x.b ≠ e.b) := fun {x} hx => by
        obtain ⟨i, hi⟩ := List.getElem?_of_mem hx
        rw [List.getElem?_set] at hi
        by_cases hqi : q = i
        · subst hqi
          rw [if_pos rfl, if_pos hq] at hi
          left
          exact (Option.some.inj hi).symm
        · rw [if_neg hqi] at hi
          refine .inr ⟨List.mem_of_getElem? hi, fun ha => ?_, fun hb => ?_⟩
          · have w1 : (es.map Ent.a)[q]? = some e.a := by rw [List.getElem?_map, e1]; rfl
            have w2 : (es.map Ent.a)[i]? = some e.a := by rw [List.getElem?_map, hi]; exact congrArg some ha
            obtain ⟨l1, k1⟩ := List.getElem?_eq_some_iff.1 w1
            obtain ⟨l2, k2⟩ := List.getElem?_eq_some_iff.1 w2
            exact hqi ((List.getElem_inj h.ka).1 (k1.trans k2.symm))
          · have w1 : (es.map Ent.b)[q]? = some e.b := by rw [List.getElem?_map, e1]; rfl
            have w2 : (es.map Ent.b)[i]? = some e.b := by rw [List.getElem?_map, hi]; exact congrArg some hb
            obtain ⟨l1, k1⟩ := List.getElem?_eq_some_iff.1 w1
            obtain ⟨l2, k2⟩ := List.getElem?_eq_some_iff.1 w2
            exact hqi ((List.getElem_inj h.kb).1 (k1.trans k2.symm))
      have hsame : (es.set q (Ent.mk e.a (M.size + 2) (e.is ++ [j]) e.born)).map Ent.a = es.map Ent.a := by
        rw [List.map_set]
        exact set_same (by rw [List.getElem?_map, e1]; rfl)
      refine ⟨Mem.get_set_same .., h.lo, ?_, by rw [hsame]; exact h.ka, ?_, fun x hx => ?_, fun a ha => ?_⟩
      · show mb < M.size + 2 + 1; omega
      · rw [List.map_set]
        refine nodup_set h.kb fun hm => ?_
        obtain ⟨x, hx, hxb⟩ := List.mem_map.1 hm
        have := (h.en x hx).2.1
        have hxb : x.b = M.size + 2 := hxb
        omega
      · rcases hset hx with rfl | ⟨hx, xa, xb⟩
        · refine ⟨by show base ≤ M.size + 2; omega, by show M.size + 2 < M.size + 2 + 1; omega, by show M.size + 2 ≠ mb; omega, ?_, by simp, ?_⟩
          · show ((((pm2 M c (j : Int)).push _).set e.b _).set mb _).get (M.size + 2) = _
            rw [Mem.get_set_ne _ (by omega), Mem.get_set_ne _ (by omega), ← s2, Mem.get_push_same]
            simp
          · show e.is ++ [j] = idx ps (j + 1) e.a
            rw [hix, if_pos e2.symm, ← a6]
        · obtain ⟨c1, c2, c3, c4, c5, c6⟩ := h.en x hx
          refine ⟨c1, ?_, c3, (hnew c2 c3 xb).trans c4, c5, ?_⟩
          · show x.b < M.size + 2 + 1; omega
          · rw [hix, if_neg (fun q => xa (q.symm.trans e2.symm))]; exact c6
      · have hex : ∃ x ∈ es, x.a = a := by
          by_cases hk : p.at_ = a
          · exact ⟨e, he, e2.trans hk⟩
          · rw [hix, if_neg hk] at ha; exact h.all a ha
        obtain ⟨x, hx, hxa⟩ := hex
        have : a ∈ (es.set q (Ent.mk e.a (M.size + 2) (e.is ++ [j]) e.born)).map Ent.a := by rw [hsame, ← hxa]; exact List.mem_map_of_mem hx
        obtain ⟨z, hz, hza⟩ := List.mem_map.1 this
        exact ⟨z, hz, hza⟩
    · show (((pm2 M c (j : Int)).push _).set e.b _).get M.size = _
      rw [Mem.get_set_ne _ (by omega), Mem.get_push_ne _ (by rw [s2]; omega)]; exact gc
    · show M.size ≤ M.size + 2 + 1; omega
    · intro i hi
      show ((((pm2 M c (j : Int)).push _).set e.b _).set mb _).get i = _
      rw [Mem.get_set_ne _ (by omega), Mem.get_set_ne _ (by omega), Mem.get_push_ne _ (by rw [s2]; omega)]; exact x2.get i (by omega)
    · intro ht i hi
      have hi : M.size + 2 + 1 ≤ i := hi
      show ((((pm2 M c (j : Int)).push _).set e.b _).set mb _).get i = _
      rw [Mem.get_set_ne _ (by omega), Mem.get_set_ne _ (by omega), Mem.get_push_ne _ (by rw [s2]; omega)]; exact x2.top ht i (by rw [s2]; omega)
end
/-! ### the loop -/
abbrev fr45 (mb : Nat) (v : Value) (n : Nat) (i : Nat) (x : Nat → Value) : Tmps := fullN 26 (up x (ds45.zip [mpV mb, v, i3 (Int.ofNat n), i3 (i : Int)]))
abbrev cd45 (k : Nat) : Tmps → Mem → Option (Ex × Tmps × Mem) := codeD Tryz.prog kp 1 (oTab tn14) (drawD Tryz.prog kp 1 (oTab tn14) 26) 26 k lb45
theorem so51 {B : Blk} {c : List Value} (hB : B = .cells true z51) (hc : c.length = 741) (h1 : c.all one = true) : H.stOk Tryz.prog B 51 0 (.agg ⟨c⟩) (.cells true c) := so_z sz51 hB z51_len hc h1
abbrev vals (ps : List PO) : List Pt := ps.map Subtype.val
theorem plc_loop {M0 : Mem} {v : Value} {ps : List PO} (hn : ps.length < 100000) (hv : PtsAt M0 v ps) (k mb : Nat) : ∀ (d i j : Nat) (x : Nat → Value) (M : Mem) (es : List Ent) (clock : Nat), ps.length = i + d → d + 1 ≤ j → Ext M0 M → Plx M0.size M mb (vals ps) i es clock →
    ∃ x' M' es' clock', Ext M0 M' ∧ Plx M0.size M' mb (vals ps) ps.length es' clock' ∧ loopD (cd45 k) j (fr45 mb v ps.length i x) M = some (.exit 0, fr45 mb v ps.length ps.length x', M')
  | 0, i, j, x, M, es, clock, hi, hj, hx, hP => by
    obtain ⟨j, rfl⟩ : ∃ j', j = j' + 1 := ⟨j - 1, by omega⟩
    obtain rfl : i = ps.length := by omega
    obtain ⟨ad, cap, rfl, _⟩ := hv.ex
    have hl := lt3 (ps.length : Int) (Int.ofNat ps.length)
    rw [decide_eq_false (show ¬ ((ps.length : Int) < Int.ofNat ps.length) from Int.lt_irrefl _)] at hl
    obtain ⟨x', h⟩ := pcZ_full (tells_tab tn14) set26 rfl (t45b k mb ad ps.length cap (ps.length : Int) x M).1 (t45b k mb ad ps.length cap (ps.length : Int) x M).2 (one_p hl)
    exact ⟨x', M, es, clock, hx, hP, loopD_stop h (by simp)⟩
  | d + 1, i, j, x, M, es, clock, hi, hj, hx, hP => by
    obtain ⟨j, rfl⟩ : ∃ j', j = j' + 1 := ⟨j - 1, by omega⟩
    have hlt : i < ps.length := by omega
    obtain ⟨p, hp⟩ : ∃ p, ps[i]? = some p := ⟨_, List.getElem?_eq_getElem hlt⟩
    obtain ⟨ad, cap, ev, hne⟩ := hv.ex
    obtain ⟨b, sp, own, rest, rfl, g2, g3⟩ := hne (by rintro rfl; simp at hlt)
    subst ev
    have hl := lt3 (i : Int) (Int.ofNat ps.length)
    rw [decide_eq_true (show (i : Int) < Int.ofNat ps.length from Int.ofNat_lt.2 hlt)] at hl
    obtain ⟨q1, q2, q3⟩ := pt_drop hp ((hx.get b g2).trans g3)
    have hp' : (vals ps)[i]? = some p.1 := by rw [List.getElem?_map, hp]; rfl
    obtain ⟨w, r, y, es2, clock2, a1, a2, a3, a4, a5, a6, a7, a8⟩ := hP.put hp' (by omega) (c := gP p) hx.size
    have gk : H.ldOk ((pm1 M (gP p)).get M.size) 0 false 1 (i3 p.1.at_) := ld_cell (a := []) (c := stC p.1.s) (Mem.get_set_same ..) rfl
    obtain ⟨x', h⟩ := pcZ_full (tells_tab tn14) set26 rfl (t45a k b (i * 741) mb sp ps.length cap (gP p) p.1.at_ (i : Int) w r y x M).1 (t45a k b (i * 741) mb sp ps.length cap (gP p) p.1.at_ (i : Int) w r y x M).2
      (cons_p hl (cons_p (ia55 und26 sz51 hlt) (cons_p q1 (cons_p (so51 (Mem.get_push_same ..) (gP_len p) (gP_one p)) (cons_p gk (cons_p gk (cons_p a1 (cons_p a2 (cons_p a3 (cons_p (ld_cell (a := []) (c := stC p.1.s) a5 rfl) (one_p (add3 (by omega)))))))))))))
    have hx' : Ext M0 (r.2.set mb y) := ⟨by have := hx.size; show M0.size ≤ r.2.size; omega, fun q hq => (a7 q hq).trans (hx.get q hq), fun ht => a8 (hx.top ht)⟩
    obtain ⟨x2, M2, es3, clock3, b1, b2, b3⟩ := plc_loop hn hv k mb d (i + 1) j x' (r.2.set mb y) es2 clock2 (by omega) (by omega) hx' a4
    exact ⟨x2, M2, es3, clock3, b1, b2, loopD_next h b3⟩
theorem res45 (x : Nat → Value) (a : Value) (M : Mem) : resD Tryz.prog (fullN 26 (up x [(2, a)])) M Tryz.f45.results.toList = some [a] := by kernel_rfl
/-- cert.places: the points' numbers by their places. -/
theorem places_at {M : Mem} {v : Value} {ps : List PO} (hn : ps.length < 100000) (hv : PtsAt M v ps) {k : Nat} (hk : ps.length + 1 ≤ k) : ∃ mb M' es clock, Ext M M' ∧ Plx M.size M' mb (vals ps) ps.length es clock ∧ bodyN Tryz.prog kp 1 (oTab tn14) k 45 [v] M = some (mpV mb, M') := by
  obtain ⟨ad, cap, rfl, _⟩ := hv.ex
  obtain ⟨x1, h1⟩ := pcZ_full (tells_tab tn14) set26 rfl (t45i k ad ps.length cap M).1 (t45i k ad ps.length cap M).2 nil_p
  have hP : Plx M.size (M.push (.map true [] 0)) M.size (vals ps) 0 [] 0 := ⟨Mem.get_push_same .., Nat.le_refl _, by show M.size < M.size + 1; omega, List.nodup_nil, List.nodup_nil, fun e he => (by cases he), fun a ha => absurd rfl ha⟩
  obtain ⟨x2, M', es, clock, a1, a2, a3⟩ := plc_loop hn hv k M.size ps.length 0 k x1 (M.push (.map true [] 0)) [] 0 (by omega) (by omega) (Ext.push _ _) hP
  have h3 := code_loop 3 (bodyOf Tryz.f45) drop45 h1 a3
  obtain ⟨x4, h4⟩ := pcZ_full (tells_tab tn14) set26 rfl (t45z k (mpV M.size) (.slice ad ps.length cap) (i3 (Int.ofNat ps.length)) (i3 (ps.length : Int)) x2 M').1 (t45z k (mpV M.size) (.slice ad ps.length cap) (i3 (Int.ofNat ps.length)) (i3 (ps.length : Int)) x2 M').2 nil_p
  exact ⟨M.size, M', es, clock, a1, a2, bodyN_of (fnE 45 Tryz.f45) (by kernel_rfl) (by kernel_rfl) (h3.trans h4) (res45 ..)⟩
end
end Go.Proofs.YtipdeijgaabobaaGreatDoor
/-
  FThn: the question that Thin asks of two points; ContainsFunc.
-/
namespace Go.Proofs.YtipdeijgaabobaaGreatDoor
open Go Go.DI Go.DI.Kit Go.Proofs Go.Crt
noncomputable section
def only (f0 : FuncId) (cf : Orc) : Orc := fun f a M => cond (Nat.beq f f0) (cf f a M) none
theorem only_some {f0 f : FuncId} {cf : Orc} {a : List Value} {M M' : Mem} {v : Value} (h : only f0 cf f a M = some (v, M')) : f = f0 ∧ cf f0 a M = some (v, M') := by
  unfold only at h
  cases hb : Nat.beq f f0 with
  | true =>
    rw [hb] at h
    have := Nat.eq_of_beq_eq_true hb
    subst this
    exact ⟨rfl, h⟩
  | false => rw [hb] at h; cases h
theorem only_at (f0 : FuncId) (cf : Orc) (a : List Value) (M : Mem) : only f0 cf f0 a M = cf f0 a M := by
  unfold only; rw [Nat.beq_refl]; rfl
theorem only_grw {f0 : FuncId} {cf : Orc} (h : CfGrw cf) : CfGrw (only f0 cf) := fun f a M v M' g => by
  obtain ⟨rfl, g⟩ := only_some g
  exact h _ _ _ _ _ g
theorem only_ok {f0 : FuncId} {cf : Orc} {B0 : Nat} (h : CfOK Tryz.prog B0 1 cf) : CfOK Tryz.prog B0 1 (only f0 cf) :=
  ⟨fun f a M v M' g => by obtain ⟨rfl, g⟩ := only_some g; exact h.size _ _ _ _ _ g, fun f a M v M' g => by obtain ⟨rfl, g⟩ := only_some g; exact h.ok _ _ _ _ _ g, fun f a M v M' g => by obtain ⟨rfl, g⟩ := only_some g; exact h.body _ _ _ _ _ g⟩
/-- Functions by their bodies, beside the table. -/
abbrev bdy (o : Orc) (k : Nat) : Orc := bodyN Tryz.prog kp 1 o k
theorem bdy_ok {o : Orc} {B0 : Nat} (h : CfOK Tryz.prog B0 1 o) (hg : CfGrw o) (k : Nat) : CfOK Tryz.prog B0 1 (bdy o k) := bodyN_ok hmix hK hng h hg k
theorem bdy_grw {o : Orc} (hg : CfGrw o) (k : Nat) : CfGrw (bdy o k) := bodyN_grw hg k
abbrev o0 : Orc := oTab tn14
theorem o0_ok (B0 : Nat) : CfOK Tryz.prog B0 1 o0 := oTab_ok tn14_ok B0 1
theorem o0_grw : CfGrw o0 := oTab_grw tn14
/-! ### the question -/
abbrev B14 (f : FuncId) (a : List Value) : Bool := ansB tn14 f a
abbrev sB14 (f : FuncId) (a : List Value) : Prop := tn14 f a = some (.bool (B14 f a))
abbrev h47 (i : Int) (v : Value) (lb off : Nat) (p q : Value) (b1 b2 b3 n4 : Bool) : List (Nat × Value) := [(7, i3 i), (8, .bool b1), (10, v), (12, po lb off), (13, q), (14, p), (17, .bool (b1 && b2)), (19, i3 i), (20, .bool b3), (22, p), (23, v), (25, po lb off), (26, q), (28, .bool n4)]
abbrev z47 (k i : Int) (x5 x1 x6 lb off n cap : Nat) (sp : Option Nat) (L L' : List Value) (b1 b2 b3 n4 : Bool) (M : Mem) :=
  fnZ (hAt (lkN (h47 i (slc lb sp n cap) lb off (.agg ⟨L⟩) (.agg ⟨L'⟩) b1 b2 b3 n4))) (qA tn14 [18] []) tn14 noQ o0 Tryz.prog kp 1 20 Tryz.f47 (bodyOf Tryz.f47) 31 [i3 k, pt x5, pt x1, pt x6] M fun v m => (v, m)
theorem t47 (k i : Int) (x5 x1 x6 lb off n cap : Nat) (sp : Option Nat) (L L' : List Value) (b1 b2 b3 n4 : Bool) (M : Mem) : ansX (z47 k i x5 x1 x6 lb off n cap sp L L' b1 b2 b3 n4 M) =
    some ((.bool ((b1 && b2) && (b3 || n4)), M), H.ldOk (M.get x5) 0 false 1 (i3 i) :: bn .neq 3 (i3 k) (i3 i) (.bool b1) :: (cond b1 [H.ldOk (M.get x1) 0 false 1 (slc lb sp n cap), indexAddrD Tryz.prog 26 (slc lb sp n cap) (i3 k) = some (po lb off), H.ldOk (M.get lb) off true 741 (.agg ⟨L'⟩), H.ldOk (M.get x6) 0 true 741 (.agg ⟨L⟩), sB14 18 [.agg ⟨L'⟩, .agg ⟨L⟩]] [] ++
      ((Value.bool (cond b1 (B14 18 [.agg ⟨L'⟩, .agg ⟨L⟩]) false) = .bool (b1 && b2)) :: cond (b1 && b2) (H.ldOk (M.get x5) 0 false 1 (i3 i) :: bn .lss 3 (i3 k) (i3 i) (.bool b3) :: cond b3 [] [H.ldOk (M.get x6) 0 true 741 (.agg ⟨L⟩), H.ldOk (M.get x1) 0 false 1 (slc lb sp n cap), indexAddrD Tryz.prog 26 (slc lb sp n cap) (i3 k) = some (po lb off), H.ldOk (M.get lb) off true 741 (.agg ⟨L'⟩), sB14 18 [.agg ⟨L⟩, .agg ⟨L'⟩], nt (B14 18 [.agg ⟨L⟩, .agg ⟨L'⟩]) n4]) []))) ∧
    evenX (z47 k i x5 x1 x6 lb off n cap sp L L' b1 b2 b3 n4 M) := by
  cases b1 <;> cases b2 <;> cases b3 <;> exact ⟨by kernel_rfl, by unfold evenX; kernel_rfl⟩
/-- What Thin's closure looks at. -/
structure Ask (M : Mem) (x5 x1 x6 : Nat) (ps : List PO) (p : PO) (i : Nat) (v : Value) : Prop where
  g5 : M.get x5 = .cells true [i3 (i : Int)]
  g1 : M.get x1 = .cells true [v]
  g6 : M.get x6 = .cells true (gP p)
  at_ : PtsAt M v ps
theorem ask_at {M : Mem} {x5 x1 x6 : Nat} {ps : List PO} {p : PO} {i : Nat} {v : Value} (h : Ask M x5 x1 x6 ps p i v) {k : Nat} {q : PO} (hk : ps[k]? = some q) :
    bdy o0 20 47 [i3 (k : Int), pt x5, pt x1, pt x6] M = some (.bool (beats q.1 k p.1 i), M) := by
  have hlt := (List.getElem?_eq_some_iff.1 hk).1
  obtain ⟨ad, cap, rfl, hne⟩ := h.at_.ex
  obtain ⟨b, sp, own, rest, rfl, g2, g3⟩ := hne (by rintro rfl; simp at hlt)
  obtain ⟨q1, _, _⟩ := pt_drop hk g3
  have l5 : H.ldOk (M.get x5) 0 false 1 (i3 (i : Int)) := ld_cell (a := []) (c := []) h.g5 rfl
  have l1 : H.ldOk (M.get x1) 0 false 1 (slc b sp ps.length cap) := ld_cell (a := []) (c := []) h.g1 rfl
  have l6 : H.ldOk (M.get x6) 0 true 741 (ptV p.1) := ld_whole h.g6 (gP_len p)
  have hia := ia55 (t := 26) und26 sz51 (b := b) (n := ps.length) (cap := cap) (sp := sp) hlt
  have hne1 : (!decide ((k : Int) = (i : Int))) = !decide (k = i) := by
    rw [decide_eq_decide.2 (show (k : Int) = (i : Int) ↔ k = i by omega)]
  obtain ⟨w, m', h1, h2⟩ := fnZ_run (tells_tab tn14) (fnE 47 Tryz.f47) (by kernel_rfl) (by kernel_rfl) (t47 (k : Int) (i : Int) x5 x1 x6 b (k * 741) ps.length cap sp (gP p) (gP q) (!decide ((k : Int) = (i : Int))) (covers q.1 p.1) (decide ((k : Int) < (i : Int))) (!covers p.1 q.1) M).1 (t47 (k : Int) (i : Int) x5 x1 x6 b (k * 741) ps.length cap sp (gP p) (gP q) (!decide ((k : Int) = (i : Int))) (covers q.1 p.1) (decide ((k : Int) < (i : Int))) (!covers p.1 q.1) M).2 (by
    refine cons_p l5 (cons_p (bin_neI ..) (app_p (if_p (fun _ => cons_p l1 (cons_p hia (cons_p q1 (cons_p l6 (one_p (said_B (tn14_18 q.2 p.2))))))) fun _ => nil_p) (cons_p ?_ (if_p (fun _ => cons_p l5 (cons_p (bin_ltI ..) (if_p (fun _ => nil_p) fun _ => cons_p l6 (cons_p l1 (cons_p hia (cons_p q1 (cons_p (said_B (tn14_18 p.2 q.2)) (one_p (not_B (tn14_18 p.2 q.2))))))))) ) fun _ => nil_p))))
    rw [show B14 18 [.agg ⟨gP q⟩, .agg ⟨gP p⟩] = covers q.1 p.1 from ansB_of (tn14_18 q.2 p.2)]
    cases (!decide ((k : Int) = (i : Int))) <;> rfl)
  have e1 : w = _ := congrArg Prod.fst h2
  have e2 : m' = M := congrArg Prod.snd h2
  subst e2
  rw [e1] at h1
  have e3 : ((!decide ((k : Int) = (i : Int)) && covers q.1 p.1) && (decide ((k : Int) < (i : Int)) || !covers p.1 q.1)) = beats q.1 k p.1 i := by
    unfold beats
    rw [hne1, decide_eq_decide.2 (show (k : Int) < (i : Int) ↔ k < i by omega)]
  rw [e3] at h1
  exact h1
/-! ### IndexFunc, ContainsFunc -/
def o1 : Orc := oAlt o0 (only 47 (bdy o0 20))
theorem o1_ok (B0 : Nat) : CfOK Tryz.prog B0 1 o1 := oAlt_ok (o0_ok B0) (only_ok (bdy_ok (o0_ok B0) o0_grw 20))
theorem o1_grw : CfGrw o1 := oAlt_grw o0_grw (only_grw (bdy_grw o0_grw 20))
theorem o1_47 (a : List Value) (M : Mem) : o1 47 a M = bdy o0 20 47 a M := (oAlt_r (o := o0) (by rfl)).trans (only_at ..)
noncomputable def lb89 : Code := loopN Tryz.f89 0
abbrev ds89 : List Nat := [0, 1, 4, 7, 8]
abbrev clo (x5 x1 x6 : Nat) : Value := .func (.func 47) #[] #[pt x5, pt x1, pt x6]
abbrev q89 (b : Bool) : Orc := fun f _ M => cond (Nat.beq f 47) (some (.bool b, M)) none
abbrev z89 (k wb : Nat) (n off : Nat) (i kk : Int) (t4 : Value) (x5 x1 x6 : Nat) (b : Bool) (x : Nat → Value) (M : Mem) :=
  pcZ (hAt (lkN [(9, .bool true), (14, po wb off), (15, i3 kk), (18, i3 (i + 1))])) noA tn14 (q89 b) o1 Tryz.prog kp 1 k lb89 19 ds89 (fullN 19 (up x (ds89.zip [slc wb (some 1) n n, clo x5 x1 x6, t4, i3 (Int.ofNat n), i3 i]))) M
theorem t89a (k wb : Nat) (n off : Nat) (i kk : Int) (t4 : Value) (x5 x1 x6 : Nat) (b : Bool) (x : Nat → Value) (M : Mem) : ansX (z89 k wb n off i kk t4 x5 x1 x6 b x M) =
    some ((cond b .ret .normal, [slc wb (some 1) n n, clo x5 x1 x6, cond b (i3 i) t4, i3 (Int.ofNat n), i3 (cond b i (i + 1))], M), bn .lss 3 (i3 i) (i3 (Int.ofNat n)) (.bool true) :: (indexAddrD Tryz.prog 104 (slc wb (some 1) n n) (i3 i) = some (po wb off)) :: H.ldOk (M.get wb) off false 1 (i3 kk) :: (o1 47 [i3 kk, pt x5, pt x1, pt x6] M = some (.bool b, M)) :: cond b [] [bn .add 3 (i3 i) (i3 1) (i3 (i + 1))]) ∧
    evenX (z89 k wb n off i kk t4 x5 x1 x6 b x M) := by
  cases b <;> exact ⟨by kernel_rfl, by unfold evenX; kernel_rfl⟩
abbrev y89 (k : Nat) (ad : Option Addr) (n cap : Nat) (i : Int) (t4 c : Value) (x : Nat → Value) (M : Mem) :=
  pcZ (hAt (lkN [(9, .bool false)])) noA tn14 noQ o1 Tryz.prog kp 1 k lb89 19 ds89 (fullN 19 (up x (ds89.zip [.slice ad n cap, c, t4, i3 (Int.ofNat n), i3 i]))) M
theorem t89b (k : Nat) (ad : Option Addr) (n cap : Nat) (i : Int) (t4 c : Value) (x : Nat → Value) (M : Mem) : ansX (y89 k ad n cap i t4 c x M) = some ((.exit 0, [.slice ad n cap, c, t4, i3 (Int.ofNat n), i3 i], M), [bn .lss 3 (i3 i) (i3 (Int.ofNat n)) (.bool false)]) ∧ evenX (y89 k ad n cap i t4 c x M) := ⟨by kernel_rfl, by unfold evenX; kernel_rfl⟩
theorem drop89 : (items (bodyOf Tryz.f89)).drop 2 = [.block 0 (.loop lb89), .region 7 (regA (bodyOf Tryz.f89) 7) false, .ret] := by kernel_rfl
noncomputable abbrev pA89 : Code := seqL ((items (bodyOf Tryz.f89)).take 2)
theorem t89i (k : Nat) (ad : Option Addr) (n cap : Nat) (c : Value) (M : Mem) : ansX (pcZ (hAt noAt) noA tn14 noQ o1 Tryz.prog kp 1 k pA89 19 ds89 (fullN 19 (argX [.slice ad n cap, c])) M) = some ((.normal, [.slice ad n cap, c, i3 0, i3 (Int.ofNat n), i3 0], M), []) ∧ evenX (pcZ (hAt noAt) noA tn14 noQ o1 Tryz.prog kp 1 k pA89 19 ds89 (fullN 19 (argX [.slice ad n cap, c])) M) := ⟨by kernel_rfl, by unfold evenX; kernel_rfl⟩
theorem t89z (k : Nat) (x : Nat → Value) (M : Mem) : ansX (pcZ (hAt noAt) noA tn14 noQ o1 Tryz.prog kp 1 k (seqL [.region 7 (regA (bodyOf Tryz.f89) 7) false, .ret]) 19 [4] (fullN 19 x) M) = some ((.ret, [i3 (-1)], M), []) ∧ evenX (pcZ (hAt noAt) noA tn14 noQ o1 Tryz.prog kp 1 k (seqL [.region 7 (regA (bodyOf Tryz.f89) 7) false, .ret]) 19 [4] (fullN 19 x) M) := ⟨by kernel_rfl, by unfold evenX; kernel_rfl⟩
end
end Go.Proofs.YtipdeijgaabobaaGreatDoor
/-
  FThn2: IndexFunc, ContainsFunc.
-/
namespace Go.Proofs.YtipdeijgaabobaaGreatDoor
open Go Go.DI Go.DI.Kit Go.Proofs Go.Crt
noncomputable section
theorem set19 : SetLaw 19 := by
  intro x d v hd
  refine ⟨up x [(d, v)], ?_⟩
  iterate 19 (rcases d with _ | d; · kernel_rfl)
  omega
abbrev cd89 (k : Nat) : Tmps → Mem → Option (Ex × Tmps × Mem) := codeD Tryz.prog kp 1 o1 (drawD Tryz.prog kp 1 o1 19) 19 k lb89
abbrev fr89 (w c t4 : Value) (n i : Nat) (x : Nat → Value) : Tmps := fullN 19 (up x (ds89.zip [w, c, t4, i3 (Int.ofNat n), i3 (i : Int)]))
theorem fo89 (w c t4 nn i : Value) (x : Nat → Value) : fullN 19 (up x (ds89.zip [w, c, t4, nn, i])) = fullN 19 (up (up x (ds89.zip [w, c, t4, nn, i])) [(4, t4)]) := by
  rw [up_self _ [(4, t4)] fun p hp => by
    rcases List.mem_cons.1 hp with rfl | hp
    · rfl
    · cases hp]
theorem ia104 {b n i : Nat} (h : i < n) : indexAddrD Tryz.prog 104 (slc b (some 1) n n) (i3 (i : Int)) = some (po b i) := by
  simp only [indexAddrD, und104, sz3]
  rw [if_pos (by omega), Int.toNat_natCast, Nat.zero_add, Nat.mul_one]
theorem ld_nI {is : List Nat} {i kk : Nat} (h : is[i]? = some kk) {B : Blk} (hB : B = .cells true (nI is)) : H.ldOk B i false 1 (i3 (kk : Int)) := by
  subst hB
  show (nI is)[i]? = some (i3 (kk : Int))
  rw [List.getElem?_map, h]; rfl
/-- The numbers, one after the other, till one is as wanted. -/
theorem idx_loop {wb x5 x1 x6 : Nat} {is : List Nat} {p : Nat → Bool} {M : Mem} (hn : is.length < 100000) (hw : M.get wb = .cells true (nI is)) (hp : ∀ kk ∈ is, bdy o0 20 47 [i3 (kk : Int), pt x5, pt x1, pt x6] M = some (.bool (p kk), M)) (k : Nat) :
    ∀ (d i j : Nat) (x : Nat → Value), is.length = i + d → d + 1 ≤ j → ∃ (x' : Nat → Value) (r : Nat), loopD (cd89 k) j (fr89 (slc wb (some 1) is.length is.length) (clo x5 x1 x6) (i3 0) is.length i x) M =
      cond ((is.drop i).any p) (some (.ret, fullN 19 (up x' [(4, i3 (r : Int))]), M)) (some (.exit 0, fullN 19 x', M))
  | 0, i, j, x, hi, hj => by
    obtain ⟨j, rfl⟩ : ∃ j', j = j' + 1 := ⟨j - 1, by omega⟩
    obtain rfl : i = is.length := by omega
    have hl := lt3 (is.length : Int) (Int.ofNat is.length)
    rw [decide_eq_false (show ¬ ((is.length : Int) < Int.ofNat is.length) from Int.lt_irrefl _)] at hl
    obtain ⟨x', h⟩ := pcZ_full (tells_alt tn14 _) set19 rfl (t89b k (some ⟨wb, 0, some 1⟩) is.length is.length (is.length : Int) (i3 0) (clo x5 x1 x6) x M).1 (t89b k (some ⟨wb, 0, some 1⟩) is.length is.length (is.length : Int) (i3 0) (clo x5 x1 x6) x M).2 (one_p hl)
    refine ⟨up x' (ds89.zip [slc wb (some 1) is.length is.length, clo x5 x1 x6, i3 0, i3 (Int.ofNat is.length), i3 (is.length : Int)]), 0, ?_⟩
    rw [List.drop_length]
    exact loopD_stop h (by simp)
  | d + 1, i, j, x, hi, hj => by
    obtain ⟨j, rfl⟩ : ∃ j', j = j' + 1 := ⟨j - 1, by omega⟩
    have hlt : i < is.length := by omega
    obtain ⟨kk, hk⟩ : ∃ kk, is[i]? = some kk := ⟨_, List.getElem?_eq_getElem hlt⟩
    have hl := lt3 (i : Int) (Int.ofNat is.length)
    rw [decide_eq_true (show (i : Int) < Int.ofNat is.length from Int.ofNat_lt.2 hlt)] at hl
    have hd : is.drop i = kk :: is.drop (i + 1) := by
      obtain ⟨hj, e⟩ := List.getElem?_eq_some_iff.1 hk
      rw [List.drop_eq_getElem_cons hj, e]
    obtain ⟨x', h⟩ := pcZ_full (tells_alt tn14 _) set19 rfl (t89a k wb is.length i (i : Int) (kk : Int) (i3 0) x5 x1 x6 (p kk) x M).1 (t89a k wb is.length i (i : Int) (kk : Int) (i3 0) x5 x1 x6 (p kk) x M).2
      (cons_p hl (cons_p (ia104 hlt) (cons_p (ld_nI hk hw) (cons_p ((o1_47 _ _).trans (hp kk (List.mem_of_getElem? hk))) (if_p (fun _ => nil_p) fun _ => one_p (add3 (by omega)))))))
    rw [hd, List.any_cons]
    cases hq : p kk with
    | true =>
      rw [hq] at h
      refine ⟨up x' (ds89.zip [slc wb (some 1) is.length is.length, clo x5 x1 x6, i3 (i : Int), i3 (Int.ofNat is.length), i3 (i : Int)]), i, ?_⟩
      rw [Bool.true_or]
      exact loopD_stop (h.trans (congrArg (fun f => some (Ex.ret, f, M)) (fo89 (slc wb (some 1) is.length is.length) (clo x5 x1 x6) (i3 (i : Int)) (i3 (Int.ofNat is.length)) (i3 (i : Int)) x'))) (by simp)
    | false =>
      rw [hq] at h
      obtain ⟨x2, r, h2⟩ := idx_loop hn hw hp k d (i + 1) j x' (by omega) (by omega)
      refine ⟨x2, r, ?_⟩
      rw [Bool.false_or]
      exact loopD_next h h2
theorem res89_r : Tryz.f89.results.toList = [.tmp 4] := by kernel_rfl
theorem fr89_4 (x : Nat → Value) (v : Value) : (fullN 19 (up x [(4, v)])).at 4 = v := by kernel_rfl
theorem res89 (x : Nat → Value) (v : Value) (M : Mem) : resD Tryz.prog (fullN 19 (up x [(4, v)])) M Tryz.f89.results.toList = some [v] := by
  rw [res89_r]; simp only [resD, fr89_4]
/-- IndexFunc: not below 0 just if one is as wanted. -/
theorem index_at {x5 x1 x6 : Nat} {is : List Nat} {p : Nat → Bool} {M : Mem} {w : Value} (hn : is.length < 1000) (hw : IdxAt M w is) (hp : ∀ kk ∈ is, bdy o0 20 47 [i3 (kk : Int), pt x5, pt x1, pt x6] M = some (.bool (p kk), M)) :
    ∃ r : Int, bdy o1 2000 89 [w, clo x5 x1 x6] M = some (i3 r, M) ∧ decide (0 ≤ r) = is.any p := by
  rcases hw with ⟨rfl, rfl⟩ | ⟨hne, wb, h1, rfl, h2⟩
  · obtain ⟨x1', a1⟩ := pcZ_full (tells_alt tn14 _) set19 rfl (t89i 2000 none 0 0 (clo x5 x1 x6) M).1 (t89i 2000 none 0 0 (clo x5 x1 x6) M).2 nil_p
    have hl := lt3 0 (Int.ofNat 0)
    rw [decide_eq_false (show ¬ ((0 : Int) < Int.ofNat 0) from Int.lt_irrefl _)] at hl
    obtain ⟨x2, a2⟩ := pcZ_full (tells_alt tn14 _) set19 rfl (t89b 2000 none 0 0 0 (i3 0) (clo x5 x1 x6) x1' M).1 (t89b 2000 none 0 0 0 (i3 0) (clo x5 x1 x6) x1' M).2 (one_p hl)
    have a3 := code_loop 2 (bodyOf Tryz.f89) drop89 a1 (DI.loopD_stop (k := 1999) a2 (by simp))
    obtain ⟨x4, a4⟩ := pcZ_full (tells_alt tn14 _) set19 rfl (t89z 2000 (up x2 (ds89.zip [.slice none 0 0, clo x5 x1 x6, i3 0, i3 (Int.ofNat 0), i3 0])) M).1 (t89z 2000 (up x2 (ds89.zip [.slice none 0 0, clo x5 x1 x6, i3 0, i3 (Int.ofNat 0), i3 0])) M).2 nil_p
    exact ⟨-1, bodyN_of (fnE 89 Tryz.f89) (by kernel_rfl) (by kernel_rfl) (a3.trans a4) (res89 ..), rfl⟩
  · obtain ⟨x1', a1⟩ := pcZ_full (tells_alt tn14 _) set19 rfl (t89i 2000 (some ⟨wb, 0, some 1⟩) is.length is.length (clo x5 x1 x6) M).1 (t89i 2000 (some ⟨wb, 0, some 1⟩) is.length is.length (clo x5 x1 x6) M).2 nil_p
    obtain ⟨x2, r, a2⟩ := idx_loop (by omega) h2 hp 2000 is.length 0 2000 x1' (by omega) (by omega)
    rw [List.drop_zero] at a2
    cases ha : is.any p with
    | true =>
      rw [ha] at a2
      have a3 := code_loopE 2 (bodyOf Tryz.f89) drop89 a1 a2 (by simp) (by simp)
      refine ⟨(r : Int), bodyN_of (fnE 89 Tryz.f89) (by kernel_rfl) (by kernel_rfl) a3 (res89 ..), ?_⟩
      exact decide_eq_true (by omega)
    | false =>
      rw [ha] at a2
      have a3 := code_loop 2 (bodyOf Tryz.f89) drop89 a1 a2
      obtain ⟨x4, a4⟩ := pcZ_full (tells_alt tn14 _) set19 rfl (t89z 2000 x2 M).1 (t89z 2000 x2 M).2 nil_p
      exact ⟨-1, bodyN_of (fnE 89 Tryz.f89) (by kernel_rfl) (by kernel_rfl) (a3.trans a4) (res89 ..), rfl⟩
def o2 : Orc := oAlt o0 (only 89 (bdy o1 2000))
theorem o2_ok (B0 : Nat) : CfOK Tryz.prog B0 1 o2 := oAlt_ok (o0_ok B0) (only_ok (bdy_ok (o1_ok B0) o1_grw 2000))
theorem o2_grw : CfGrw o2 := oAlt_grw o0_grw (only_grw (bdy_grw o1_grw 2000))
theorem o2_89 (a : List Value) (M : Mem) : o2 89 a M = bdy o1 2000 89 a M := (oAlt_r (o := o0) (by rfl)).trans (only_at ..)
abbrev q46 (r : Int) : Orc := fun f _ M => cond (Nat.beq f 89) (some (i3 r, M)) none
theorem t46 (w c : Value) (r : Int) (b : Bool) (M : Mem) : ansX (fnZ (hAt (lkN [(8, .bool b)])) noA tn14 (q46 r) o2 Tryz.prog kp 1 20 Tryz.f46 (bodyOf Tryz.f46) 9 [w, c] M fun v m => (v, m)) = some ((.bool b, M), [o2 89 [w, c] M = some (i3 r, M), bn .geq 3 (i3 r) (i3 0) (.bool b)]) ∧
    evenX (fnZ (hAt (lkN [(8, .bool b)])) noA tn14 (q46 r) o2 Tryz.prog kp 1 20 Tryz.f46 (bodyOf Tryz.f46) 9 [w, c] M fun v m => (v, m)) := ⟨by kernel_rfl, by unfold evenX; kernel_rfl⟩
/-- ContainsFunc: is one as wanted? -/
theorem contains_at {x5 x1 x6 : Nat} {is : List Nat} {p : Nat → Bool} {M : Mem} {w : Value} (hn : is.length < 1000) (hw : IdxAt M w is) (hp : ∀ kk ∈ is, bdy o0 20 47 [i3 (kk : Int), pt x5, pt x1, pt x6] M = some (.bool (p kk), M)) :
    bdy o2 20 46 [w, clo x5 x1 x6] M = some (.bool (is.any p), M) := by
  obtain ⟨r, h1, h2⟩ := index_at hn hw hp
  have hb := bin_geI (P := Tryz.prog) (K := kp) (t := 3) .i64 r 0
  rw [h2] at hb
  obtain ⟨v, m', a1, a2⟩ := fnZ_run (tells_alt tn14 _) (fnE 46 Tryz.f46) (by kernel_rfl) (by kernel_rfl) (t46 w (clo x5 x1 x6) r (is.any p) M).1 (t46 w (clo x5 x1 x6) r (is.any p) M).2 (cons_p ((o2_89 _ _).trans h1) (one_p hb))
  have e1 : v = _ := congrArg Prod.fst a2
  have e2 : m' = M := congrArg Prod.snd a2
  subst e2
  rw [e1] at a1
  exact a1
end
end Go.Proofs.YtipdeijgaabobaaGreatDoor
/-
  FThn3: cert.Thin.
-/
namespace Go.Crt
theorem any_idx {l : List Pt} {p : Pt} {i : Nat} : ((idx l l.length p.at_).any fun kk => match l[kk]? with | some q => beats q kk p i | none => false) = lessB l p i := by
  cases h : lessB l p i with
  | true =>
    obtain ⟨q, k, hq, hb⟩ := less_iff.1 h
    rw [List.any_eq_true]
    refine ⟨k, ?_, by rw [hq]; exact hb⟩
    unfold idx
    refine List.mem_filter.2 ⟨List.mem_range.2 (List.getElem?_eq_some_iff.1 hq).1, ?_⟩
    rw [hq]
    exact decide_eq_true (covers_at (beats_iff.1 hb).2.1)
  | false =>
    rw [List.any_eq_false]
    intro k hk hc
    cases hq : l[k]? with
    | none => rw [hq] at hc; cases hc
    | some q =>
      rw [hq] at hc
      have := less_iff.2 ⟨q, k, hq, hc⟩
      rw [h] at this; cases this
end Go.Crt
namespace Go.Proofs.YtipdeijgaabobaaGreatDoor
open Go Go.DI Go.DI.Kit Go.Proofs Go.Crt
noncomputable section
def o3 : Orc := oAlt o0 (oAlt (only 45 (bdy o0 2000)) (only 46 (bdy o2 20)))
theorem o3_ok (B0 : Nat) : CfOK Tryz.prog B0 1 o3 := oAlt_ok (o0_ok B0) (oAlt_ok (only_ok (bdy_ok (o0_ok B0) o0_grw 2000)) (only_ok (bdy_ok (o2_ok B0) o2_grw 20)))
theorem o3_grw : CfGrw o3 := oAlt_grw o0_grw (oAlt_grw (only_grw (bdy_grw o0_grw 2000)) (only_grw (bdy_grw o2_grw 20)))
theorem o3_46 (a : List Value) (M : Mem) : o3 46 a M = bdy o2 20 46 a M := (oAlt_r (o := o0) (by rfl)).trans ((oAlt_r (o := only 45 (bdy o0 2000)) (by rfl)).trans (only_at ..))
theorem o3_45 {a : List Value} {M : Mem} {r : Value × Mem} (h : bdy o0 2000 45 a M = some r) : o3 45 a M = some r := (oAlt_r (o := o0) (by rfl)).trans (oAlt_l ((only_at ..).trans h))
noncomputable def lb15 : Code := loopN Tryz.f15 0
abbrev ds15 : List Nat := [1, 3, 4, 10, 11, 12]
abbrev tm2 (M : Mem) : Mem := (M.push (.cells true [i3 0])).push (.cells true z51)
abbrev tm3 (M : Mem) (i : Int) : Mem := (tm2 M).set M.size (.cells true [i3 i])
abbrev tm4 (M : Mem) (i : Int) (c : List Value) : Mem := (tm3 M i).set (M.size + 1) (.cells true c)
noncomputable def st15 (i : Int) (c : List Value) (a : Operand) : Option Blk := match a with
  | .tmp 5 => some (.cells true [i3 i])
  | _ => some (.cells true c)
noncomputable def h15 (lb off : Nat) (c : List Value) (a i : Int) (w : Value) (nb : Bool) (r : Value × Mem) : H.Hint :=
  { hAt (lkN [(13, .bool true), (15, po lb off), (16, .agg ⟨c⟩), (19, i3 a), (20, w), (24, .bool nb), (26, .agg ⟨c⟩), (29, i3 (i + 1))]) with stO := fun x _ => st15 i c x, apO := fun _ => some r, bs := fun _ => some (.cells true c) }
abbrev q15 (b : Bool) : Orc := fun f _ M => cond (Nat.beq f 46) (some (.bool b, M)) none
abbrev z15 (k b1 mb lb off n cap : Nat) (sp : Option Nat) (c : List Value) (a i : Int) (acc w : Value) (less nb : Bool) (r : Value × Mem) (x : Nat → Value) (M : Mem) :=
  pcZ (h15 lb off c a i w nb r) noA tn14 (q15 less) o3 Tryz.prog kp 1 k lb15 31 ds15 (fullN 31 (up x (ds15.zip [pt b1, mpV mb, acc, slc lb sp n cap, i3 (Int.ofNat n), i3 i]))) M
theorem t15a (k b1 mb lb off n cap : Nat) (sp : Option Nat) (c : List Value) (a i : Int) (acc w : Value) (less nb : Bool) (r : Value × Mem) (x : Nat → Value) (M : Mem) : ansX (z15 k b1 mb lb off n cap sp c a i acc w less nb r x M) =
    some ((.normal, [pt b1, mpV mb, cond nb r.1 acc, slc lb sp n cap, i3 (Int.ofNat n), i3 (i + 1)], cond nb r.2 (tm4 M i c)), bn .lss 3 (i3 i) (i3 (Int.ofNat n)) (.bool true) :: (indexAddrD Tryz.prog 26 (slc lb sp n cap) (i3 i) = some (po lb off)) :: H.ldOk (M.get lb) off true 741 (.agg ⟨c⟩) ::
      H.stOk Tryz.prog ((tm2 M).get M.size) 3 0 (i3 i) (.cells true [i3 i]) :: H.stOk Tryz.prog ((tm3 M i).get (M.size + 1)) 51 0 (.agg ⟨c⟩) (.cells true c) :: H.ldOk ((tm4 M i c).get (M.size + 1)) 0 false 1 (i3 a) :: (lookupD Tryz.prog kp (tm4 M i c) 101 (mpV mb) (i3 a) false = some w) ::
      (o3 46 [w, clo M.size b1 (M.size + 1)] (tm4 M i c) = some (.bool less, tm4 M i c)) :: nt less nb :: (cond nb [H.ldOk ((tm4 M i c).get (M.size + 1)) 0 true 741 (.agg ⟨c⟩), H.bsOk Tryz.prog 26 1 [(0, .agg ⟨c⟩)] (.cells true c), appendD Tryz.prog ((tm4 M i c).push (.cells true c)) 26 26 acc (slc (M.size + 2) none 1 1) = some r] [] ++ [bn .add 3 (i3 i) (i3 1) (i3 (i + 1))])) ∧
    evenX (z15 k b1 mb lb off n cap sp c a i acc w less nb r x M) := by
  cases nb <;> exact ⟨by kernel_rfl, by unfold evenX; kernel_rfl⟩
abbrev y15 (k b1 : Nat) (ad : Option Addr) (n cap : Nat) (i : Int) (m acc : Value) (x : Nat → Value) (M : Mem) :=
  pcZ (hAt (lkN [(13, .bool false)])) noA tn14 noQ o3 Tryz.prog kp 1 k lb15 31 ds15 (fullN 31 (up x (ds15.zip [pt b1, m, acc, .slice ad n cap, i3 (Int.ofNat n), i3 i]))) M
theorem t15b (k b1 : Nat) (ad : Option Addr) (n cap : Nat) (i : Int) (m acc : Value) (x : Nat → Value) (M : Mem) : ansX (y15 k b1 ad n cap i m acc x M) = some ((.exit 0, [pt b1, m, acc, .slice ad n cap, i3 (Int.ofNat n), i3 i], M), [bn .lss 3 (i3 i) (i3 (Int.ofNat n)) (.bool false)]) ∧ evenX (y15 k b1 ad n cap i m acc x M) := ⟨by kernel_rfl, by unfold evenX; kernel_rfl⟩
theorem drop15 : (items (bodyOf Tryz.f15)).drop 4 = [.block 0 (.loop lb15), .region 10 (regA (bodyOf Tryz.f15) 10) false, .ret] := by kernel_rfl
noncomputable abbrev pA15 : Code := seqL ((items (bodyOf Tryz.f15)).take 4)
abbrev qP (m : Value) (M' : Mem) : Orc := fun f _ _ => cond (Nat.beq f 45) (some (m, M')) none
abbrev z15i (k : Nat) (ad : Option Addr) (n cap : Nat) (m : Value) (M M' : Mem) := pcZ (hAt (lkN [(8, .slice ad n cap), (10, .slice ad n cap)])) noA tn14 (qP m M') o3 Tryz.prog kp 1 k pA15 31 ds15 (fullN 31 (argX [.slice ad n cap])) M
theorem t15i (k : Nat) (ad : Option Addr) (n cap : Nat) (m : Value) (M M' : Mem) : ansX (z15i k ad n cap m M M') = some ((.normal, [pt M.size, m, .slice none 0 0, .slice ad n cap, i3 (Int.ofNat n), i3 0], M'), [H.ldOk ((M.push (.cells true [.slice ad n cap])).get M.size) 0 false 1 (.slice ad n cap), o3 45 [.slice ad n cap] (M.push (.cells true [.slice ad n cap])) = some (m, M'), H.ldOk (M'.get M.size) 0 false 1 (.slice ad n cap)]) ∧ evenX (z15i k ad n cap m M M') := ⟨by kernel_rfl, by unfold evenX; kernel_rfl⟩
theorem t15z (k b1 : Nat) (m acc v n i : Value) (x : Nat → Value) (M : Mem) : ansX (pcZ (hAt noAt) noA tn14 noQ o3 Tryz.prog kp 1 k (seqL [.region 10 (regA (bodyOf Tryz.f15) 10) false, .ret]) 31 [2] (fullN 31 (up x (ds15.zip [pt b1, m, acc, v, n, i]))) M) = some ((.ret, [acc], M), []) ∧ evenX (pcZ (hAt noAt) noA tn14 noQ o3 Tryz.prog kp 1 k (seqL [.region 10 (regA (bodyOf Tryz.f15) 10) false, .ret]) 31 [2] (fullN 31 (up x (ds15.zip [pt b1, m, acc, v, n, i]))) M) := ⟨by kernel_rfl, by unfold evenX; kernel_rfl⟩
end
end Go.Proofs.YtipdeijgaabobaaGreatDoor
/-
  FThn4: cert.Thin, whole.
-/
namespace Go.Proofs.YtipdeijgaabobaaGreatDoor
open Go Go.DI Go.DI.Kit Go.Proofs Go.Crt
noncomputable section
/-- What is left of the first ones. -/
def kO (ps : List PO) (i : Nat) : List PO := ((ps.zipIdx.take i).filter fun x => !lessB (vals ps) x.1.1 x.2).map Prod.fst
theorem kO_len (ps : List PO) (i : Nat) : (kO ps i).length ≤ ps.length := by
  unfold kO
  rw [List.length_map]
  refine Nat.le_trans (List.length_filter_le _ _) ?_
  rw [List.length_take, List.length_zipIdx]
  exact Nat.min_le_right _ _
theorem kO_succ {ps : List PO} {i : Nat} {p : PO} (h : ps[i]? = some p) : kO ps (i + 1) = if lessB (vals ps) p.1 i = true then kO ps i else kO ps i ++ [p] := by
  have hz : ps.zipIdx[i]? = some (p, i) := by rw [List.getElem?_zipIdx, h]; simp
  have hf : List.filter (fun x : PO × Nat => !lessB (vals ps) x.1.1 x.2) [(p, i)] = if lessB (vals ps) p.1 i = true then [] else [(p, i)] := by
    cases h' : lessB (vals ps) p.1 i <;> simp only [List.filter_cons, List.filter_nil, h'] <;> rfl
  unfold kO
  rw [List.take_add_one, hz, List.filter_append, List.map_append]
  show _ ++ (List.filter (fun x : PO × Nat => !lessB (vals ps) x.1.1 x.2) [(p, i)]).map Prod.fst = _
  rw [hf]
  by_cases hl : lessB (vals ps) p.1 i = true
  · rw [if_pos hl, if_pos hl]
    exact List.append_nil _
  · rw [if_neg hl, if_neg hl]
    rfl
theorem set31 : SetLaw 31 := by
  intro x d v hd
  refine ⟨up x [(d, v)], ?_⟩
  iterate 31 (rcases d with _ | d; · kernel_rfl)
  omega
theorem tm4_ext (M : Mem) (i : Int) (c : List Value) : Ext M (tm4 M i c) := by
  refine ⟨by show M.size ≤ M.size + 1 + 1; omega, fun j hj => ?_, fun ht j hj => ?_⟩
  · rw [Mem.get_set_ne _ (by omega), Mem.get_set_ne _ (by omega), Mem.get_push_ne _ (by show j ≠ M.size + 1; omega), Mem.get_push_ne _ (by omega)]
  · have hj : M.size + 1 + 1 ≤ j := hj
    rw [Mem.get_set_ne _ (by omega), Mem.get_set_ne _ (by omega), Mem.get_push_ne _ (by show j ≠ M.size + 1; omega), Mem.get_push_ne _ (by omega)]
    exact ht j (by omega)
theorem tm4_5 (M : Mem) (i : Int) (c : List Value) : (tm4 M i c).get M.size = .cells true [i3 i] := by
  rw [Mem.get_set_ne _ (by omega)]; exact Mem.get_set_same ..
theorem tm4_6 (M : Mem) (i : Int) (c : List Value) : (tm4 M i c).get (M.size + 1) = .cells true c := Mem.get_set_same ..
theorem tm3_6 (M : Mem) (i : Int) : (tm3 M i).get (M.size + 1) = .cells true z51 := by
  rw [Mem.get_set_ne _ (by omega)]
  exact Mem.get_push_same (M.push (.cells true [i3 0])) _
theorem tm2_5 (M : Mem) : (tm2 M).get M.size = .cells true [i3 0] := by
  rw [Mem.get_push_ne _ (by show M.size ≠ M.size + 1; omega), Mem.get_push_same]
theorem so3 {B : Blk} {i j : Int} (hB : B = .cells true [i3 j]) : H.stOk Tryz.prog B 3 0 (i3 i) (.cells true [i3 i]) := fun m b hg => by
  subst hB
  have h2 := storeD_at (P := Tryz.prog) (t := 3) (v := i3 i) (n := 1) (off := 0) (m := m) (b := b) (c := [i3 j]) sz3 rfl hg (Nat.le_refl 1) rfl
  exact h2
abbrev fr15 (b1 mb : Nat) (acc v : Value) (n i : Nat) (x : Nat → Value) : Tmps := fullN 31 (up x (ds15.zip [pt b1, mpV mb, acc, v, i3 (Int.ofNat n), i3 (i : Int)]))
abbrev cd15 (k : Nat) : Tmps → Mem → Option (Ex × Tmps × Mem) := codeD Tryz.prog kp 1 o3 (drawD Tryz.prog kp 1 o3 31) 31 k lb15
theorem own_ext {base : Nat} {M M' : Mem} {v : Value} {qs : List PO} (h : Own base M v qs) (hx : Ext M M') : Own base M' v qs := by
  rcases h with h | ⟨h1, b, h2, h3, h4, h5⟩
  · exact .inl h
  · exact .inr ⟨h1, b, h2, Nat.lt_of_lt_of_le h3 hx.size, h4, (hx.get b h3).trans h5⟩
theorem thn_loop {M0 : Mem} {v : Value} {ps : List PO} {b1 mb : Nat} {es : List Ent} {clock : Nat} {base : Nat} (hn : ps.length < 1000) (hv : PtsAt M0 v ps) (hb1 : b1 < M0.size) (hg1 : M0.get b1 = .cells true [v]) (hP : Plx base M0 mb (vals ps) ps.length es clock) (k : Nat) :
    ∀ (d i j : Nat) (acc : Value) (x : Nat → Value) (M : Mem), ps.length = i + d → d + 1 ≤ j → Ext M0 M → Own M0.size M acc (kO ps i) →
    ∃ x' acc' M', Ext M0 M' ∧ Own M0.size M' acc' (kO ps ps.length) ∧ loopD (cd15 k) j (fr15 b1 mb acc v ps.length i x) M = some (.exit 0, fr15 b1 mb acc' v ps.length ps.length x', M')
  | 0, i, j, acc, x, M, hi, hj, hx, ho => by
    obtain ⟨j, rfl⟩ : ∃ j', j = j' + 1 := ⟨j - 1, by omega⟩
    obtain rfl : i = ps.length := by omega
    obtain ⟨ad, cap, rfl, _⟩ := hv.ex
    have hl := lt3 (ps.length : Int) (Int.ofNat ps.length)
    rw [decide_eq_false (show ¬ ((ps.length : Int) < Int.ofNat ps.length) from Int.lt_irrefl _)] at hl
    obtain ⟨x', h⟩ := pcZ_full (tells_alt tn14 _) set31 rfl (t15b k b1 ad ps.length cap (ps.length : Int) (mpV mb) acc x M).1 (t15b k b1 ad ps.length cap (ps.length : Int) (mpV mb) acc x M).2 (one_p hl)
    exact ⟨x', acc, M, hx, ho, loopD_stop h (by simp)⟩
  | d + 1, i, j, acc, x, M, hi, hj, hx, ho => by
    obtain ⟨j, rfl⟩ : ∃ j', j = j' + 1 := ⟨j - 1, by omega⟩
    have hlt : i < ps.length := by omega
    obtain ⟨p, hp⟩ : ∃ p, ps[i]? = some p := ⟨_, List.getElem?_eq_getElem hlt⟩
    have hv0 := hv
    obtain ⟨ad, cap, ev, hne⟩ := hv.ex
    obtain ⟨b, sp, own, rest, rfl, g2, g3⟩ := hne (by rintro rfl; simp at hlt)
    subst ev
    have hl := lt3 (i : Int) (Int.ofNat ps.length)
    rw [decide_eq_true (show (i : Int) < Int.ofNat ps.length from Int.ofNat_lt.2 hlt)] at hl
    obtain ⟨q1, q2, q3⟩ := pt_drop hp ((hx.get b g2).trans g3)
    have hx4 : Ext M (tm4 M (i : Int) (gP p)) := tm4_ext ..
    have hx04 := hx.trans hx4
    obtain ⟨w, hw1, hw2⟩ := (hP.grow hx04).lookup p.1.at_
    have hsz := hx.size
    have hask : Ask (tm4 M (i : Int) (gP p)) M.size b1 (M.size + 1) ps p i (slc b sp ps.length cap) := ⟨tm4_5 .., (hx04.get b1 hb1).trans hg1, tm4_6 .., hv0.ext hx04⟩
    have hlen : (idx (vals ps) ps.length p.1.at_).length < 1000 := by
      refine Nat.lt_of_le_of_lt (List.length_filter_le _ _) ?_
      rw [List.length_range]; exact hn
    have hcon := contains_at (p := fun kk => match (vals ps)[kk]? with | some q => beats q kk p.1 i | none => false) hlen hw2 (fun kk hkk => by
      have hlt2 : kk < ps.length := idx_lt hkk
      obtain ⟨q, hq⟩ : ∃ q, ps[kk]? = some q := ⟨_, List.getElem?_eq_getElem hlt2⟩
      have h1 := ask_at hask hq
      have h2 : (vals ps)[kk]? = some q.1 := by rw [List.getElem?_map, hq]; rfl
      simp only [h2]
      exact h1)
    have hany : ((idx (vals ps) ps.length p.1.at_).any fun kk => match (vals ps)[kk]? with | some q => beats q kk p.1 i | none => false) = lessB (vals ps) p.1 i := by
      have := any_idx (l := vals ps) (p := p.1) (i := i)
      rw [List.length_map] at this
      exact this
    rw [hany] at hcon
    obtain ⟨r, a1, a2, a3⟩ := app_pt hx04 (own_ext ho hx4) p (Nat.lt_of_le_of_lt (kO_len ps i) (by omega))
    have h46 := (o3_46 [w, clo M.size b1 (M.size + 1)] (tm4 M (i : Int) (gP p))).trans hcon
    have hks := kO_succ hp
    obtain ⟨x', h⟩ := pcZ_full (tells_alt tn14 _) set31 rfl (t15a k b1 mb b (i * 741) ps.length cap sp (gP p) p.1.at_ (i : Int) acc w (lessB (vals ps) p.1 i) (!lessB (vals ps) p.1 i) r x M).1 (t15a k b1 mb b (i * 741) ps.length cap sp (gP p) p.1.at_ (i : Int) acc w (lessB (vals ps) p.1 i) (!lessB (vals ps) p.1 i) r x M).2
      (cons_p hl (cons_p (ia55 und26 sz51 hlt) (cons_p q1 (cons_p (so3 (tm2_5 M)) (cons_p (so51 (tm3_6 ..) (gP_len p) (gP_one p)) (cons_p (ld_cell (a := []) (c := stC p.1.s) (tm4_6 ..) rfl) (cons_p hw1 (cons_p h46 (cons_p rfl (app_p (if_p (fun _ => cons_p (ld_whole (tm4_6 ..) (gP_len p)) (cons_p bs26 (one_p a1))) fun _ => nil_p) (one_p (add3 (by omega)))))))))))))
    cases hc : lessB (vals ps) p.1 i with
    | true =>
      rw [hc] at h hks
      rw [if_pos rfl] at hks
      obtain ⟨x2, acc2, M2, b1', b2', b3'⟩ := thn_loop hn hv0 hb1 hg1 hP k d (i + 1) j acc x' (tm4 M (i : Int) (gP p)) (by omega) (by omega) hx04 (by rw [hks]; exact own_ext ho hx4)
      exact ⟨x2, acc2, M2, b1', b2', loopD_next h b3'⟩
    | false =>
      rw [hc] at h hks
      rw [if_neg (by decide)] at hks
      obtain ⟨x2, acc2, M2, b1', b2', b3'⟩ := thn_loop hn hv0 hb1 hg1 hP k d (i + 1) j r.1 x' r.2 (by omega) (by omega) a3 (by rw [hks]; exact a2)
      exact ⟨x2, acc2, M2, b1', b2', loopD_next h b3'⟩
theorem res15 (x : Nat → Value) (a : Value) (M : Mem) : resD Tryz.prog (fullN 31 (up x [(2, a)])) M Tryz.f15.results.toList = some [a] := by kernel_rfl
/-- cert.Thin: what is left. -/
theorem thin_at {M : Mem} {v : Value} {ps : List PO} (hn : ps.length < 1000) (hv : PtsAt M v ps) : ∃ acc M', Ext M M' ∧ Own M.size M' acc (kO ps ps.length) ∧ bdy o3 2000 15 [v] M = some (acc, M') := by
  have hv0 := hv
  obtain ⟨ad, cap, rfl, _⟩ := hv.ex
  have hx1 : Ext M (M.push (.cells true [.slice ad ps.length cap])) := Ext.push _ _
  obtain ⟨mb, M1, es, clock, a1, a2, a3⟩ := places_at (by omega) (hv0.ext hx1) (k := 2000) (by omega)
  have hx2 := hx1.trans a1
  have g1 : M1.get M.size = .cells true [.slice ad ps.length cap] := (a1.get M.size (by show M.size < M.size + 1; omega)).trans (Mem.get_push_same ..)
  obtain ⟨x1, h1⟩ := pcZ_full (tells_alt tn14 _) set31 rfl (t15i 2000 ad ps.length cap (mpV mb) M M1).1 (t15i 2000 ad ps.length cap (mpV mb) M M1).2
    (cons_p (ld_cell (a := []) (c := []) (Mem.get_push_same ..) rfl) (cons_p (o3_45 a3) (one_p (ld_cell (a := []) (c := []) g1 rfl))))
  have hlt : M.size < M1.size := Nat.lt_of_lt_of_le (by show M.size < M.size + 1; omega) a1.size
  obtain ⟨x2, acc, M', b1, b2, b3⟩ := thn_loop hn (hv0.ext hx2) hlt g1 a2 2000 ps.length 0 2000 (.slice none 0 0) x1 M1 (by omega) (by omega) (Ext.refl _) (.inl ⟨rfl, rfl⟩)
  have h3 := code_loop 4 (bodyOf Tryz.f15) drop15 h1 b3
  obtain ⟨x4, h4⟩ := pcZ_full (tells_alt tn14 _) set31 rfl (t15z 2000 M.size (mpV mb) acc (.slice ad ps.length cap) (i3 (Int.ofNat ps.length)) (i3 (ps.length : Int)) x2 M').1 (t15z 2000 M.size (mpV mb) acc (.slice ad ps.length cap) (i3 (Int.ofNat ps.length)) (i3 (ps.length : Int)) x2 M').2 nil_p
  refine ⟨acc, M', hx2.trans b1, ?_, bodyN_of (fnE 15 Tryz.f15) (by kernel_rfl) (by kernel_rfl) (h3.trans h4) (res15 ..)⟩
  rcases b2 with b2 | ⟨c1, b, c2, c3, c4, c5⟩
  · exact .inl b2
  · exact .inr ⟨c1, b, by omega, c3, c4, c5⟩
end
end Go.Proofs.YtipdeijgaabobaaGreatDoor
/-
  FEq: points that are the same.
-/
namespace Go.Proofs.YtipdeijgaabobaaGreatDoor
open Go Go.DI Go.DI.Kit Go.Proofs Go.Crt
noncomputable section
theorem feq41' (dd : Nat) (k m x y k' m' x' y' : Int) (le le' : Bool) (a b c d a' b' c' d' : U) : feq Tryz.prog kp (dd + 4) 41 (rgV ⟨k, le, m, ⟨a, b, c, d⟩, x, y⟩) (rgV ⟨k', le', m', ⟨a', b', c', d'⟩, x', y'⟩) =
    tw (ti k k') (tw (le == le') (tw (ti m m') (an (an (tw (iq a a') (tw (iq b b') (some true))) (an (tw (iq c c') (tw (iq d d') (some true))) (some true))) (tw (ti x x') (tw (ti y y') (some true)))))) := by kernel_rfl
theorem feqR (dd : Nat) (r r' : Rg) : feq Tryz.prog kp (dd + 4) 41 (rgV r) (rgV r') = some (decide (r = r')) := by
  rw [← rg_ext]
  obtain ⟨k, le, m, ⟨a, b, c, d⟩, x, y⟩ := r
  obtain ⟨k', le', m', ⟨a', b', c', d'⟩, x', y'⟩ := r'
  have hS : an (tw (iq a a') (tw (iq b b') (some true))) (an (tw (iq c c') (tw (iq d d') (some true))) (some true)) = some ((a == a' && b == b') && (c == c' && d == d')) := by
    rw [tw_eq, tw_eq, tw_eq, tw_eq, iq_eq, iq_eq, iq_eq, iq_eq, Bool.and_true, Bool.and_true]
    exact (congrArg _ (an_eq _ true)).trans ((an_eq _ _).trans (by rw [Bool.and_true]))
  rw [feq41', hS, tw_eq (ti y y') true, tw_eq (ti x x'), an_eq, tw_eq (ti m m'), tw_eq (le == le'), tw_eq (ti k k'), Bool.and_true]
  rfl
theorem feq44' (dd : Nat) (h h' : Int) (r r' : Rg) : feq Tryz.prog kp (dd + 5) 44 (.agg ⟨.int .u8 h :: rgC r⟩) (.agg ⟨.int .u8 h' :: rgC r'⟩) = tw (ti h h') (an (feq Tryz.prog kp (dd + 4) 41 (rgV r) (rgV r')) (some true)) := by
  obtain ⟨k, le, m, ⟨a, b, c, d⟩, x, y⟩ := r
  obtain ⟨k', le', m', ⟨a', b', c', d'⟩, x', y'⟩ := r'
  kernel_rfl
theorem feqS (dd : Nat) (x x' : Sl) : feq Tryz.prog kp (dd + 5) 44 (slV x) (slV x') = some (decide (x = x')) := by
  obtain ⟨h, r⟩ := x
  obtain ⟨h', r'⟩ := x'
  refine (feq44' dd (h.toNat : Int) (h'.toNat : Int) r r').trans ?_
  rw [feqR, an_eq, tw_eq, Bool.and_true]
  congr 1
  show (decide ((h.toNat : Int) = (h'.toNat : Int)) && decide (r = r')) = _
  rw [← Bool.decide_and]
  refine decide_eq_decide.2 ⟨fun e => ?_, fun e => ?_⟩
  · rw [e.2, BitVec.eq_of_toNat_eq (show h.toNat = h'.toNat by omega)]
  · cases e; exact ⟨rfl, rfl⟩
theorem feqL_list {X : Type} [DecidableEq X] {f : Nat → Option Bool} : ∀ (l l' : List X) (i : Nat), l.length = l'.length → (∀ j x x', l[j]? = some x → l'[j]? = some x' → f (i + j) = some (decide (x = x'))) → feqL f l.length i = some (decide (l = l'))
  | [], [], i, _, _ => rfl
  | [], _ :: _, i, h, _ => by cases h
  | _ :: _, [], i, h, _ => by cases h
  | x :: l, x' :: l', i, h, hf => by
    have h0 := hf 0 x x' rfl rfl
    have ih := feqL_list l l' (i + 1) (by simpa using h) (fun j y y' h1 h2 => by
      have := hf (j + 1) y y' (by simpa using h1) (by simpa using h2)
      rwa [show i + (j + 1) = i + 1 + j by omega] at this)
    rw [Nat.add_zero] at h0
    simp only [List.length_cons, feqL, h0]
    by_cases e : x = x'
    · subst e
      rw [decide_eq_true rfl]
      simp only [ih]
      congr 1
      exact decide_eq_decide.2 ⟨fun q => by rw [q], fun q => (List.cons.inj q).2⟩
    · rw [decide_eq_false e]
      simp only
      rw [decide_eq_false fun q => e (List.cons.inj q).1]
noncomputable abbrev pq (d : Nat) (t : TypeId) (L L' : List Value) (o : Nat) : Option Bool := match DI.part Tryz.prog t L o, DI.part Tryz.prog t L' o with
  | some a, some b => feq Tryz.prog kp d t a b
  | _, _ => none
theorem feq42' (d : Nat) (L L' : List Value) : feq Tryz.prog kp (d + 1) 42 (.agg ⟨L⟩) (.agg ⟨L'⟩) = feqL (fun i => pq d 41 L L' (i * 9)) 11 0 := by kernel_rfl
theorem feq45' (d : Nat) (L L' : List Value) : feq Tryz.prog kp (d + 1) 45 (.agg ⟨L⟩) (.agg ⟨L'⟩) = feqL (fun i => pq d 44 L L' (i * 10)) 64 0 := by kernel_rfl
theorem feq47' (d : Nat) (L L' : List Value) : feq Tryz.prog kp (d + 1) 47 (.agg ⟨L⟩) (.agg ⟨L'⟩) = an (pq d 42 L L' 0) (an (pq d 45 L L' 99) (an (pq d 3 L L' 739) (some true))) := by kernel_rfl
theorem feq51' (d : Nat) (L L' : List Value) : feq Tryz.prog kp (d + 1) 51 (.agg ⟨L⟩) (.agg ⟨L'⟩) = an (pq d 3 L L' 0) (an (pq d 47 L L' 1) (some true)) := by kernel_rfl
theorem part_mid {t : TypeId} {n : Nat} (ha : aggB Tryz.prog t = some true) (hs : szOf Tryz.prog t = some n) {a b c : List Value} (hb : b.length = n) {off : Nat} (ho : a.length = off) : DI.part Tryz.prog t (a ++ (b ++ c)) off = some (.agg ⟨b⟩) := by
  subst ho
  unfold DI.part
  simp only [ha, hs]
  rw [List.drop_left, ← hb, List.take_left]
theorem agg42 : aggB Tryz.prog 42 = some true := by kernel_rfl
theorem agg45 : aggB Tryz.prog 45 = some true := by kernel_rfl
theorem agg47 : aggB Tryz.prog 47 = some true := by kernel_rfl
theorem agg3 : aggB Tryz.prog 3 = some false := by kernel_rfl
theorem sz42 : szOf Tryz.prog 42 = some 99 := by kernel_rfl
theorem sz45 : szOf Tryz.prog 45 = some 640 := by kernel_rfl
theorem sz47 : szOf Tryz.prog 47 = some 740 := by kernel_rfl
theorem pq_at {d : Nat} {t : TypeId} {L L' : List Value} {o : Nat} {a b : Value} (h : DI.part Tryz.prog t L o = some a) (h' : DI.part Tryz.prog t L' o = some b) : pq d t L L' o = feq Tryz.prog kp d t a b := by
  unfold pq
  rw [h, h']
theorem part41 {l : List Rg} (hl : l.length = 11) {j : Nat} {x : Rg} (h : l[j]? = some x) : DI.part Tryz.prog 41 (l.flatMap rgC) (j * 9) = some (rgV x) := by
  have hi := (List.getElem?_eq_some_iff.1 h).1
  rw [part_agg agg41 sz41 (by rw [chunk_len rgC_len, hl]; omega), chunk_take rgC_len h]
theorem part44 {l : List Sl} (hl : l.length = 64) {j : Nat} {x : Sl} (h : l[j]? = some x) : DI.part Tryz.prog 44 (l.flatMap slC) (j * 10) = some (slV x) := by
  have hi := (List.getElem?_eq_some_iff.1 h).1
  rw [part_agg agg44 sz44 (by rw [chunk_len slC_len, hl]; omega), chunk_take slC_len h]
theorem feqRs (dd : Nat) {l l' : List Rg} (h : l.length = 11) (h' : l'.length = 11) : feq Tryz.prog kp (dd + 5) 42 (.agg ⟨l.flatMap rgC⟩) (.agg ⟨l'.flatMap rgC⟩) = some (decide (l = l')) := by
  have key := feqL_list (f := fun i => pq (dd + 4) 41 (l.flatMap rgC) (l'.flatMap rgC) (i * 9)) l l' 0 (h.trans h'.symm) (fun j x x' h1 h2 => by
    rw [Nat.zero_add]
    exact (pq_at (part41 h h1) (part41 h' h2)).trans (feqR dd x x'))
  rw [h] at key
  exact (feq42' (dd + 4) _ _).trans key
theorem feqSs (dd : Nat) {l l' : List Sl} (h : l.length = 64) (h' : l'.length = 64) : feq Tryz.prog kp (dd + 6) 45 (.agg ⟨l.flatMap slC⟩) (.agg ⟨l'.flatMap slC⟩) = some (decide (l = l')) := by
  have key := feqL_list (f := fun i => pq (dd + 5) 44 (l.flatMap slC) (l'.flatMap slC) (i * 10)) l l' 0 (h.trans h'.symm) (fun j x x' h1 h2 => by
    rw [Nat.zero_add]
    exact (pq_at (part44 h h1) (part44 h' h2)).trans (feqS dd x x'))
  rw [h] at key
  exact (feq45' (dd + 5) _ _).trans key
theorem feqI' (d : Nat) (a b : Int) : feq Tryz.prog kp (d + 1) 3 (i3 a) (i3 b) = some (a == b) := by kernel_rfl
theorem part3 {a c : List Value} {v : Value} {off : Nat} (ho : a.length = off) : DI.part Tryz.prog 3 (a ++ (v :: c)) off = some v := by
  subst ho
  unfold DI.part
  simp only [agg3]
  rw [List.getElem?_append_right (Nat.le_refl _), Nat.sub_self]; rfl
theorem feqSt (dd : Nat) {s s' : Stt} (h : s.Ok) (h' : s'.Ok) : feq Tryz.prog kp (dd + 7) 47 (stV s) (stV s') = some (decide (s = s')) := by
  have p1 : ∀ {x : Stt}, x.Ok → DI.part Tryz.prog 42 (stC x) 0 = some (.agg ⟨x.regs.flatMap rgC⟩) := fun {x} hx => part_mid (a := []) agg42 sz42 (regs_len hx) rfl
  have p2 : ∀ {x : Stt}, x.Ok → DI.part Tryz.prog 45 (stC x) 99 = some (.agg ⟨x.stack.flatMap slC⟩) := fun {x} hx => part_mid agg45 sz45 (slots_len hx) (regs_len hx)
  have p3 : ∀ {x : Stt}, x.Ok → DI.part Tryz.prog 3 (stC x) 739 = some (i3 x.pkt) := fun {x} hx => by
    have := part3 (a := x.regs.flatMap rgC ++ x.stack.flatMap slC) (c := []) (v := i3 x.pkt) (off := 739) (by rw [List.length_append, regs_len hx, slots_len hx])
    rw [List.append_assoc] at this
    exact this
  rw [feq47' (dd + 6)]
  unfold pq
  rw [p1 h, p1 h', p2 h, p2 h', p3 h, p3 h']
  simp only
  rw [feqRs (dd + 1) h.regs h'.regs, feqSs dd h.stack h'.stack, feqI', an_eq, an_eq, an_eq, Bool.and_true]
  congr 1
  obtain ⟨r, k, n⟩ := s
  obtain ⟨r', k', n'⟩ := s'
  show (decide (r = r') && (decide (k = k') && decide (n = n'))) = _
  rw [← Bool.decide_and, ← Bool.decide_and]
  refine decide_eq_decide.2 ⟨fun e => ?_, fun e => ?_⟩
  · rw [e.1, e.2.1, e.2.2]
  · cases e; exact ⟨rfl, rfl, rfl⟩
theorem kp51 : kp 51 = true := by kernel_rfl
theorem eq51 (p q : PO) : bn .eql 51 (ptV p.1) (ptV q.1) (.bool (decide (p.1 = q.1))) := by
  obtain ⟨⟨a, s⟩, h⟩ := p
  obtain ⟨⟨a', s'⟩, h'⟩ := q
  refine eqS kp51 ?_
  have p1 : ∀ {a : Int} {x : Stt}, DI.part Tryz.prog 3 (i3 a :: stC x) 0 = some (i3 a) := fun {a x} => part3 (a := []) rfl
  have p2 : ∀ {a : Int} {x : Stt}, x.Ok → DI.part Tryz.prog 47 (i3 a :: stC x) 1 = some (stV x) := fun {a x} hx => by
    have := part_mid (a := [i3 a]) (b := stC x) (c := []) agg47 sz47 (stC_len hx) rfl
    rw [List.append_nil] at this
    exact this
  refine (feq51' 99 (i3 a :: stC s) (i3 a' :: stC s')).trans ?_
  unfold pq
  rw [p1, p1, p2 h, p2 h']
  simp only
  rw [feqI', feqSt 92 h h', an_eq, an_eq, Bool.and_true]
  congr 1
  show (decide (a = a') && decide (s = s')) = _
  rw [← Bool.decide_and]
  refine decide_eq_decide.2 ⟨fun e => ?_, fun e => ?_⟩
  · rw [e.1, e.2]
  · cases e; exact ⟨rfl, rfl⟩
end
end Go.Proofs.YtipdeijgaabobaaGreatDoor
/-
  VShape1: insn.Of, insn.Places and shape.alone on the forms of a table's code (printed by mkcheck.py).
-/
namespace Go.Proofs.YtipdeijgaabobaaGreatDoor
open Go Go.DI Go.DI.Kit Go.Proofs Go.Cmp
noncomputable section
noncomputable def gtr5 (x : Int) : Prop := binD Tryz.prog kp .gtr 5 (.int .u8 x) (.int .u8 10) = some (.bool false)
noncomputable def eql5 (x : Int) : Prop := binD Tryz.prog kp .eql 5 (.int .u8 x) (.int .u8 10) = some (.bool false)
noncomputable def hO (x y : List Value) : H.Hint where
  ix t := Nat.beq t 25
  ld _ _ _ := none
  cmp op t := cond (Nat.beq t 5) (BinOp.rec (motive := fun _ => Option Bool) none none none none none none none none none none none none none none none (some false) none op) none
  ap _ := none
  call _ := none
  spec _ _ _ _ := False
  blk := 0
  cmpY op t v := cond (Nat.beq t 5) (BinOp.rec (motive := fun _ => Option Bool) none none none none none none none none none none none (match v with | .int _ n => cond (Nat.beq n.toNat 10) (some false) none | _ => none) none none none none none op) none
  ldA a t := cond (Nat.beq t 24) (match a with | .tmp 13 => some (.agg ⟨x⟩) | .tmp 40 => some (.agg ⟨y⟩) | _ => none) none
  cmpO op t a := cond (Nat.beq t 3) (BinOp.rec (motive := fun _ => Option Bool) none none none none none none none none none none none (match a with | .tmp 33 => some false | _ => none) none none none none none op) none
noncomputable def ofR (f : FuncId) (x : List Value) : Option (H.TT (Value × Blk)) := H.callT (hO [] []) Tryz.prog kp 1 20 f [.agg ⟨x⟩] (mS gl []) fun v m => some ((v, m.get 0), [], [])
noncomputable def alR (own : Bool) (L x y : List Value) (k : Nat) (p : Int) : Option (H.TT (Value × Blk × Blk)) := H.callT (hO x y) Tryz.prog kp 1 20 67 [imgV (sliceN 1 k), .int .i64 p] (mS gl [.cells own L]) fun v m => some ((v, m.get 0, m.get 1), [], [])
noncomputable def ixP (p : Int) (k : Nat) : Prop := 0 ≤ p ∧ p < (k : Int)
noncomputable def ldP (L : List Value) (p : Int) (x : List Value) : Prop := H.ldOk (.cells true L) (Nat.add 0 (Nat.mul p.toNat 5)) true 5 (.agg ⟨x⟩)
noncomputable def eqNP (p : Int) (k : Nat) : Prop := binD Tryz.prog kp .eql 3 (.int .i64 (IntKind.wrap .i64 (Int.add p 1))) (.int .i64 (Int.ofNat k)) = some (.bool false)
theorem of_movI (d n : Int) : ansX (ofR 31 [.int .u8 183, .int .u8 d, .int .u8 0, .int .i16 0, .int .i32 n]) = some ((.tuple ⟨[.agg ⟨[.int .i64 1, .int .i64 11, .int .i64 0, .bool true, .bool false]⟩, .int .i64 0]⟩, .cells false gl), [gtr5 d, eql5 d]) ∧ evenX (ofR 31 [.int .u8 183, .int .u8 d, .int .u8 0, .int .i16 0, .int .i32 n]) := ⟨by kernel_rfl, by unfold evenX; kernel_rfl⟩
theorem pl_movI (d n : Int) : ansX (ofR 32 [.int .u8 183, .int .u8 d, .int .u8 0, .int .i16 0, .int .i32 n]) = some ((.int .i64 1, .cells false gl), [gtr5 d, eql5 d]) ∧ evenX (ofR 32 [.int .u8 183, .int .u8 d, .int .u8 0, .int .i16 0, .int .i32 n]) := ⟨by kernel_rfl, by unfold evenX; kernel_rfl⟩
theorem al_movI (d n : Int) (own : Bool) (L : List Value) (k : Nat) (p : Int) : ansX (alR own L [.int .u8 183, .int .u8 d, .int .u8 0, .int .i16 0, .int .i32 n] [] k p) = some ((.tuple ⟨[.agg ⟨[.int .i64 1, .int .i64 11, .int .i64 0, .bool true, .bool false]⟩, .int .i64 0]⟩, .cells false gl, .cells own L), ixP p k :: ldP L p [.int .u8 183, .int .u8 d, .int .u8 0, .int .i16 0, .int .i32 n] :: [gtr5 d, eql5 d]) ∧ evenX (alR own L [.int .u8 183, .int .u8 d, .int .u8 0, .int .i16 0, .int .i32 n] [] k p) := ⟨by kernel_rfl, by unfold evenX; kernel_rfl⟩
theorem of_andI (d n : Int) : ansX (ofR 31 [.int .u8 87, .int .u8 d, .int .u8 0, .int .i16 0, .int .i32 n]) = some ((.tuple ⟨[.agg ⟨[.int .i64 1, .int .i64 5, .int .i64 0, .bool true, .bool false]⟩, .int .i64 0]⟩, .cells false gl), [gtr5 d, eql5 d]) ∧ evenX (ofR 31 [.int .u8 87, .int .u8 d, .int .u8 0, .int .i16 0, .int .i32 n]) := ⟨by kernel_rfl, by unfold evenX; kernel_rfl⟩
theorem pl_andI (d n : Int) : ansX (ofR 32 [.int .u8 87, .int .u8 d, .int .u8 0, .int .i16 0, .int .i32 n]) = some ((.int .i64 1, .cells false gl), [gtr5 d, eql5 d]) ∧ evenX (ofR 32 [.int .u8 87, .int .u8 d, .int .u8 0, .int .i16 0, .int .i32 n]) := ⟨by kernel_rfl, by unfold evenX; kernel_rfl⟩
theorem al_andI (d n : Int) (own : Bool) (L : List Value) (k : Nat) (p : Int) : ansX (alR own L [.int .u8 87, .int .u8 d, .int .u8 0, .int .i16 0, .int .i32 n] [] k p) = some ((.tuple ⟨[.agg ⟨[.int .i64 1, .int .i64 5, .int .i64 0, .bool true, .bool false]⟩, .int .i64 0]⟩, .cells false gl, .cells own L), ixP p k :: ldP L p [.int .u8 87, .int .u8 d, .int .u8 0, .int .i16 0, .int .i32 n] :: [gtr5 d, eql5 d]) ∧ evenX (alR own L [.int .u8 87, .int .u8 d, .int .u8 0, .int .i16 0, .int .i32 n] [] k p) := ⟨by kernel_rfl, by unfold evenX; kernel_rfl⟩
theorem of_movR (d s : Int) : ansX (ofR 31 [.int .u8 191, .int .u8 d, .int .u8 s, .int .i16 0, .int .i32 0]) = some ((.tuple ⟨[.agg ⟨[.int .i64 1, .int .i64 11, .int .i64 0, .bool true, .bool true]⟩, .int .i64 0]⟩, .cells false gl), [gtr5 d, eql5 d, gtr5 s]) ∧ evenX (ofR 31 [.int .u8 191, .int .u8 d, .int .u8 s, .int .i16 0, .int .i32 0]) := ⟨by kernel_rfl, by unfold evenX; kernel_rfl⟩
theorem pl_movR (d s : Int) : ansX (ofR 32 [.int .u8 191, .int .u8 d, .int .u8 s, .int .i16 0, .int .i32 0]) = some ((.int .i64 1, .cells false gl), [gtr5 d, eql5 d, gtr5 s]) ∧ evenX (ofR 32 [.int .u8 191, .int .u8 d, .int .u8 s, .int .i16 0, .int .i32 0]) := ⟨by kernel_rfl, by unfold evenX; kernel_rfl⟩
theorem al_movR (d s : Int) (own : Bool) (L : List Value) (k : Nat) (p : Int) : ansX (alR own L [.int .u8 191, .int .u8 d, .int .u8 s, .int .i16 0, .int .i32 0] [] k p) = some ((.tuple ⟨[.agg ⟨[.int .i64 1, .int .i64 11, .int .i64 0, .bool true, .bool true]⟩, .int .i64 0]⟩, .cells false gl, .cells own L), ixP p k :: ldP L p [.int .u8 191, .int .u8 d, .int .u8 s, .int .i16 0, .int .i32 0] :: [gtr5 d, eql5 d, gtr5 s]) ∧ evenX (alR own L [.int .u8 191, .int .u8 d, .int .u8 s, .int .i16 0, .int .i32 0] [] k p) := ⟨by kernel_rfl, by unfold evenX; kernel_rfl⟩
theorem of_andR (d s : Int) : ansX (ofR 31 [.int .u8 95, .int .u8 d, .int .u8 s, .int .i16 0, .int .i32 0]) = some ((.tuple ⟨[.agg ⟨[.int .i64 1, .int .i64 5, .int .i64 0, .bool true, .bool true]⟩, .int .i64 0]⟩, .cells false gl), [gtr5 d, eql5 d, gtr5 s]) ∧ evenX (ofR 31 [.int .u8 95, .int .u8 d, .int .u8 s, .int .i16 0, .int .i32 0]) := ⟨by kernel_rfl, by unfold evenX; kernel_rfl⟩
theorem pl_andR (d s : Int) : ansX (ofR 32 [.int .u8 95, .int .u8 d, .int .u8 s, .int .i16 0, .int .i32 0]) = some ((.int .i64 1, .cells false gl), [gtr5 d, eql5 d, gtr5 s]) ∧ evenX (ofR 32 [.int .u8 95, .int .u8 d, .int .u8 s, .int .i16 0, .int .i32 0]) := ⟨by kernel_rfl, by unfold evenX; kernel_rfl⟩
theorem al_andR (d s : Int) (own : Bool) (L : List Value) (k : Nat) (p : Int) : ansX (alR own L [.int .u8 95, .int .u8 d, .int .u8 s, .int .i16 0, .int .i32 0] [] k p) = some ((.tuple ⟨[.agg ⟨[.int .i64 1, .int .i64 5, .int .i64 0, .bool true, .bool true]⟩, .int .i64 0]⟩, .cells false gl, .cells own L), ixP p k :: ldP L p [.int .u8 95, .int .u8 d, .int .u8 s, .int .i16 0, .int .i32 0] :: [gtr5 d, eql5 d, gtr5 s]) ∧ evenX (alR own L [.int .u8 95, .int .u8 d, .int .u8 s, .int .i16 0, .int .i32 0] [] k p) := ⟨by kernel_rfl, by unfold evenX; kernel_rfl⟩
theorem of_low (n : Int) : ansX (ofR 31 [.int .u8 180, .int .u8 0, .int .u8 0, .int .i16 0, .int .i32 n]) = some ((.tuple ⟨[.agg ⟨[.int .i64 1, .int .i64 11, .int .i64 0, .bool false, .bool false]⟩, .int .i64 0]⟩, .cells false gl), [gtr5 0, eql5 0]) ∧ evenX (ofR 31 [.int .u8 180, .int .u8 0, .int .u8 0, .int .i16 0, .int .i32 n]) := ⟨by kernel_rfl, by unfold evenX; kernel_rfl⟩
theorem pl_low (n : Int) : ansX (ofR 32 [.int .u8 180, .int .u8 0, .int .u8 0, .int .i16 0, .int .i32 n]) = some ((.int .i64 1, .cells false gl), [gtr5 0, eql5 0]) ∧ evenX (ofR 32 [.int .u8 180, .int .u8 0, .int .u8 0, .int .i16 0, .int .i32 n]) := ⟨by kernel_rfl, by unfold evenX; kernel_rfl⟩
theorem al_low (n : Int) (own : Bool) (L : List Value) (k : Nat) (p : Int) : ansX (alR own L [.int .u8 180, .int .u8 0, .int .u8 0, .int .i16 0, .int .i32 n] [] k p) = some ((.tuple ⟨[.agg ⟨[.int .i64 1, .int .i64 11, .int .i64 0, .bool false, .bool false]⟩, .int .i64 0]⟩, .cells false gl, .cells own L), ixP p k :: ldP L p [.int .u8 180, .int .u8 0, .int .u8 0, .int .i16 0, .int .i32 n] :: [gtr5 0, eql5 0]) ∧ evenX (alR own L [.int .u8 180, .int .u8 0, .int .u8 0, .int .i16 0, .int .i32 n] [] k p) := ⟨by kernel_rfl, by unfold evenX; kernel_rfl⟩
theorem of_exit  : ansX (ofR 31 [.int .u8 149, .int .u8 0, .int .u8 0, .int .i16 0, .int .i32 0]) = some ((.tuple ⟨[.agg ⟨[.int .i64 9, .int .i64 0, .int .i64 0, .bool false, .bool false]⟩, .int .i64 0]⟩, .cells false gl), []) ∧ evenX (ofR 31 [.int .u8 149, .int .u8 0, .int .u8 0, .int .i16 0, .int .i32 0]) := ⟨by kernel_rfl, by unfold evenX; kernel_rfl⟩
theorem pl_exit  : ansX (ofR 32 [.int .u8 149, .int .u8 0, .int .u8 0, .int .i16 0, .int .i32 0]) = some ((.int .i64 1, .cells false gl), []) ∧ evenX (ofR 32 [.int .u8 149, .int .u8 0, .int .u8 0, .int .i16 0, .int .i32 0]) := ⟨by kernel_rfl, by unfold evenX; kernel_rfl⟩
theorem al_exit  (own : Bool) (L : List Value) (k : Nat) (p : Int) : ansX (alR own L [.int .u8 149, .int .u8 0, .int .u8 0, .int .i16 0, .int .i32 0] [] k p) = some ((.tuple ⟨[.agg ⟨[.int .i64 9, .int .i64 0, .int .i64 0, .bool false, .bool false]⟩, .int .i64 0]⟩, .cells false gl, .cells own L), ixP p k :: ldP L p [.int .u8 149, .int .u8 0, .int .u8 0, .int .i16 0, .int .i32 0] :: []) ∧ evenX (alR own L [.int .u8 149, .int .u8 0, .int .u8 0, .int .i16 0, .int .i32 0] [] k p) := ⟨by kernel_rfl, by unfold evenX; kernel_rfl⟩
theorem of_load1 (d s o : Int) : ansX (ofR 31 [.int .u8 113, .int .u8 d, .int .u8 s, .int .i16 o, .int .i32 0]) = some ((.tuple ⟨[.agg ⟨[.int .i64 3, .int .i64 0, .int .i64 1, .bool false, .bool false]⟩, .int .i64 0]⟩, .cells false gl), [gtr5 d, eql5 d, gtr5 s]) ∧ evenX (ofR 31 [.int .u8 113, .int .u8 d, .int .u8 s, .int .i16 o, .int .i32 0]) := ⟨by kernel_rfl, by unfold evenX; kernel_rfl⟩
theorem pl_load1 (d s o : Int) : ansX (ofR 32 [.int .u8 113, .int .u8 d, .int .u8 s, .int .i16 o, .int .i32 0]) = some ((.int .i64 1, .cells false gl), [gtr5 d, eql5 d, gtr5 s]) ∧ evenX (ofR 32 [.int .u8 113, .int .u8 d, .int .u8 s, .int .i16 o, .int .i32 0]) := ⟨by kernel_rfl, by unfold evenX; kernel_rfl⟩
theorem al_load1 (d s o : Int) (own : Bool) (L : List Value) (k : Nat) (p : Int) : ansX (alR own L [.int .u8 113, .int .u8 d, .int .u8 s, .int .i16 o, .int .i32 0] [] k p) = some ((.tuple ⟨[.agg ⟨[.int .i64 3, .int .i64 0, .int .i64 1, .bool false, .bool false]⟩, .int .i64 0]⟩, .cells false gl, .cells own L), ixP p k :: ldP L p [.int .u8 113, .int .u8 d, .int .u8 s, .int .i16 o, .int .i32 0] :: [gtr5 d, eql5 d, gtr5 s]) ∧ evenX (alR own L [.int .u8 113, .int .u8 d, .int .u8 s, .int .i16 o, .int .i32 0] [] k p) := ⟨by kernel_rfl, by unfold evenX; kernel_rfl⟩
theorem of_load2 (d s o : Int) : ansX (ofR 31 [.int .u8 105, .int .u8 d, .int .u8 s, .int .i16 o, .int .i32 0]) = some ((.tuple ⟨[.agg ⟨[.int .i64 3, .int .i64 0, .int .i64 2, .bool false, .bool false]⟩, .int .i64 0]⟩, .cells false gl), [gtr5 d, eql5 d, gtr5 s]) ∧ evenX (ofR 31 [.int .u8 105, .int .u8 d, .int .u8 s, .int .i16 o, .int .i32 0]) := ⟨by kernel_rfl, by unfold evenX; kernel_rfl⟩
theorem pl_load2 (d s o : Int) : ansX (ofR 32 [.int .u8 105, .int .u8 d, .int .u8 s, .int .i16 o, .int .i32 0]) = some ((.int .i64 1, .cells false gl), [gtr5 d, eql5 d, gtr5 s]) ∧ evenX (ofR 32 [.int .u8 105, .int .u8 d, .int .u8 s, .int .i16 o, .int .i32 0]) := ⟨by kernel_rfl, by unfold evenX; kernel_rfl⟩
theorem al_load2 (d s o : Int) (own : Bool) (L : List Value) (k : Nat) (p : Int) : ansX (alR own L [.int .u8 105, .int .u8 d, .int .u8 s, .int .i16 o, .int .i32 0] [] k p) = some ((.tuple ⟨[.agg ⟨[.int .i64 3, .int .i64 0, .int .i64 2, .bool false, .bool false]⟩, .int .i64 0]⟩, .cells false gl, .cells own L), ixP p k :: ldP L p [.int .u8 105, .int .u8 d, .int .u8 s, .int .i16 o, .int .i32 0] :: [gtr5 d, eql5 d, gtr5 s]) ∧ evenX (alR own L [.int .u8 105, .int .u8 d, .int .u8 s, .int .i16 o, .int .i32 0] [] k p) := ⟨by kernel_rfl, by unfold evenX; kernel_rfl⟩
theorem of_load4 (d s o : Int) : ansX (ofR 31 [.int .u8 97, .int .u8 d, .int .u8 s, .int .i16 o, .int .i32 0]) = some ((.tuple ⟨[.agg ⟨[.int .i64 3, .int .i64 0, .int .i64 4, .bool false, .bool false]⟩, .int .i64 0]⟩, .cells false gl), [gtr5 d, eql5 d, gtr5 s]) ∧ evenX (ofR 31 [.int .u8 97, .int .u8 d, .int .u8 s, .int .i16 o, .int .i32 0]) := ⟨by kernel_rfl, by unfold evenX; kernel_rfl⟩
theorem pl_load4 (d s o : Int) : ansX (ofR 32 [.int .u8 97, .int .u8 d, .int .u8 s, .int .i16 o, .int .i32 0]) = some ((.int .i64 1, .cells false gl), [gtr5 d, eql5 d, gtr5 s]) ∧ evenX (ofR 32 [.int .u8 97, .int .u8 d, .int .u8 s, .int .i16 o, .int .i32 0]) := ⟨by kernel_rfl, by unfold evenX; kernel_rfl⟩
theorem al_load4 (d s o : Int) (own : Bool) (L : List Value) (k : Nat) (p : Int) : ansX (alR own L [.int .u8 97, .int .u8 d, .int .u8 s, .int .i16 o, .int .i32 0] [] k p) = some ((.tuple ⟨[.agg ⟨[.int .i64 3, .int .i64 0, .int .i64 4, .bool false, .bool false]⟩, .int .i64 0]⟩, .cells false gl, .cells own L), ixP p k :: ldP L p [.int .u8 97, .int .u8 d, .int .u8 s, .int .i16 o, .int .i32 0] :: [gtr5 d, eql5 d, gtr5 s]) ∧ evenX (alR own L [.int .u8 97, .int .u8 d, .int .u8 s, .int .i16 o, .int .i32 0] [] k p) := ⟨by kernel_rfl, by unfold evenX; kernel_rfl⟩
theorem of_load8 (d s o : Int) : ansX (ofR 31 [.int .u8 121, .int .u8 d, .int .u8 s, .int .i16 o, .int .i32 0]) = some ((.tuple ⟨[.agg ⟨[.int .i64 3, .int .i64 0, .int .i64 8, .bool false, .bool false]⟩, .int .i64 0]⟩, .cells false gl), [gtr5 d, eql5 d, gtr5 s]) ∧ evenX (ofR 31 [.int .u8 121, .int .u8 d, .int .u8 s, .int .i16 o, .int .i32 0]) := ⟨by kernel_rfl, by unfold evenX; kernel_rfl⟩
theorem pl_load8 (d s o : Int) : ansX (ofR 32 [.int .u8 121, .int .u8 d, .int .u8 s, .int .i16 o, .int .i32 0]) = some ((.int .i64 1, .cells false gl), [gtr5 d, eql5 d, gtr5 s]) ∧ evenX (ofR 32 [.int .u8 121, .int .u8 d, .int .u8 s, .int .i16 o, .int .i32 0]) := ⟨by kernel_rfl, by unfold evenX; kernel_rfl⟩
theorem al_load8 (d s o : Int) (own : Bool) (L : List Value) (k : Nat) (p : Int) : ansX (alR own L [.int .u8 121, .int .u8 d, .int .u8 s, .int .i16 o, .int .i32 0] [] k p) = some ((.tuple ⟨[.agg ⟨[.int .i64 3, .int .i64 0, .int .i64 8, .bool false, .bool false]⟩, .int .i64 0]⟩, .cells false gl, .cells own L), ixP p k :: ldP L p [.int .u8 121, .int .u8 d, .int .u8 s, .int .i16 o, .int .i32 0] :: [gtr5 d, eql5 d, gtr5 s]) ∧ evenX (alR own L [.int .u8 121, .int .u8 d, .int .u8 s, .int .i16 o, .int .i32 0] [] k p) := ⟨by kernel_rfl, by unfold evenX; kernel_rfl⟩
theorem of_swap2  : ansX (ofR 31 [.int .u8 215, .int .u8 2, .int .u8 0, .int .i16 0, .int .i32 16]) = some ((.tuple ⟨[.agg ⟨[.int .i64 2, .int .i64 0, .int .i64 2, .bool false, .bool false]⟩, .int .i64 0]⟩, .cells false gl), [gtr5 2, eql5 2]) ∧ evenX (ofR 31 [.int .u8 215, .int .u8 2, .int .u8 0, .int .i16 0, .int .i32 16]) := ⟨by kernel_rfl, by unfold evenX; kernel_rfl⟩
theorem pl_swap2  : ansX (ofR 32 [.int .u8 215, .int .u8 2, .int .u8 0, .int .i16 0, .int .i32 16]) = some ((.int .i64 1, .cells false gl), [gtr5 2, eql5 2]) ∧ evenX (ofR 32 [.int .u8 215, .int .u8 2, .int .u8 0, .int .i16 0, .int .i32 16]) := ⟨by kernel_rfl, by unfold evenX; kernel_rfl⟩
theorem al_swap2  (own : Bool) (L : List Value) (k : Nat) (p : Int) : ansX (alR own L [.int .u8 215, .int .u8 2, .int .u8 0, .int .i16 0, .int .i32 16] [] k p) = some ((.tuple ⟨[.agg ⟨[.int .i64 2, .int .i64 0, .int .i64 2, .bool false, .bool false]⟩, .int .i64 0]⟩, .cells false gl, .cells own L), ixP p k :: ldP L p [.int .u8 215, .int .u8 2, .int .u8 0, .int .i16 0, .int .i32 16] :: [gtr5 2, eql5 2]) ∧ evenX (alR own L [.int .u8 215, .int .u8 2, .int .u8 0, .int .i16 0, .int .i32 16] [] k p) := ⟨by kernel_rfl, by unfold evenX; kernel_rfl⟩
theorem of_swap4  : ansX (ofR 31 [.int .u8 215, .int .u8 2, .int .u8 0, .int .i16 0, .int .i32 32]) = some ((.tuple ⟨[.agg ⟨[.int .i64 2, .int .i64 0, .int .i64 4, .bool false, .bool false]⟩, .int .i64 0]⟩, .cells false gl), [gtr5 2, eql5 2]) ∧ evenX (ofR 31 [.int .u8 215, .int .u8 2, .int .u8 0, .int .i16 0, .int .i32 32]) := ⟨by kernel_rfl, by unfold evenX; kernel_rfl⟩
theorem pl_swap4  : ansX (ofR 32 [.int .u8 215, .int .u8 2, .int .u8 0, .int .i16 0, .int .i32 32]) = some ((.int .i64 1, .cells false gl), [gtr5 2, eql5 2]) ∧ evenX (ofR 32 [.int .u8 215, .int .u8 2, .int .u8 0, .int .i16 0, .int .i32 32]) := ⟨by kernel_rfl, by unfold evenX; kernel_rfl⟩
theorem al_swap4  (own : Bool) (L : List Value) (k : Nat) (p : Int) : ansX (alR own L [.int .u8 215, .int .u8 2, .int .u8 0, .int .i16 0, .int .i32 32] [] k p) = some ((.tuple ⟨[.agg ⟨[.int .i64 2, .int .i64 0, .int .i64 4, .bool false, .bool false]⟩, .int .i64 0]⟩, .cells false gl, .cells own L), ixP p k :: ldP L p [.int .u8 215, .int .u8 2, .int .u8 0, .int .i16 0, .int .i32 32] :: [gtr5 2, eql5 2]) ∧ evenX (alR own L [.int .u8 215, .int .u8 2, .int .u8 0, .int .i16 0, .int .i32 32] [] k p) := ⟨by kernel_rfl, by unfold evenX; kernel_rfl⟩
theorem of_swap8  : ansX (ofR 31 [.int .u8 215, .int .u8 2, .int .u8 0, .int .i16 0, .int .i32 64]) = some ((.tuple ⟨[.agg ⟨[.int .i64 2, .int .i64 0, .int .i64 8, .bool false, .bool false]⟩, .int .i64 0]⟩, .cells false gl), [gtr5 2, eql5 2]) ∧ evenX (ofR 31 [.int .u8 215, .int .u8 2, .int .u8 0, .int .i16 0, .int .i32 64]) := ⟨by kernel_rfl, by unfold evenX; kernel_rfl⟩
theorem pl_swap8  : ansX (ofR 32 [.int .u8 215, .int .u8 2, .int .u8 0, .int .i16 0, .int .i32 64]) = some ((.int .i64 1, .cells false gl), [gtr5 2, eql5 2]) ∧ evenX (ofR 32 [.int .u8 215, .int .u8 2, .int .u8 0, .int .i16 0, .int .i32 64]) := ⟨by kernel_rfl, by unfold evenX; kernel_rfl⟩
theorem al_swap8  (own : Bool) (L : List Value) (k : Nat) (p : Int) : ansX (alR own L [.int .u8 215, .int .u8 2, .int .u8 0, .int .i16 0, .int .i32 64] [] k p) = some ((.tuple ⟨[.agg ⟨[.int .i64 2, .int .i64 0, .int .i64 8, .bool false, .bool false]⟩, .int .i64 0]⟩, .cells false gl, .cells own L), ixP p k :: ldP L p [.int .u8 215, .int .u8 2, .int .u8 0, .int .i16 0, .int .i32 64] :: [gtr5 2, eql5 2]) ∧ evenX (alR own L [.int .u8 215, .int .u8 2, .int .u8 0, .int .i16 0, .int .i32 64] [] k p) := ⟨by kernel_rfl, by unfold evenX; kernel_rfl⟩
theorem of_jif3 (d o n : Int) : ansX (ofR 31 [.int .u8 53, .int .u8 d, .int .u8 0, .int .i16 o, .int .i32 n]) = some ((.tuple ⟨[.agg ⟨[.int .i64 6, .int .i64 3, .int .i64 0, .bool true, .bool false]⟩, .int .i64 0]⟩, .cells false gl), [gtr5 d]) ∧ evenX (ofR 31 [.int .u8 53, .int .u8 d, .int .u8 0, .int .i16 o, .int .i32 n]) := ⟨by kernel_rfl, by unfold evenX; kernel_rfl⟩
theorem pl_jif3 (d o n : Int) : ansX (ofR 32 [.int .u8 53, .int .u8 d, .int .u8 0, .int .i16 o, .int .i32 n]) = some ((.int .i64 1, .cells false gl), [gtr5 d]) ∧ evenX (ofR 32 [.int .u8 53, .int .u8 d, .int .u8 0, .int .i16 o, .int .i32 n]) := ⟨by kernel_rfl, by unfold evenX; kernel_rfl⟩
theorem al_jif3 (d o n : Int) (own : Bool) (L : List Value) (k : Nat) (p : Int) : ansX (alR own L [.int .u8 53, .int .u8 d, .int .u8 0, .int .i16 o, .int .i32 n] [] k p) = some ((.tuple ⟨[.agg ⟨[.int .i64 6, .int .i64 3, .int .i64 0, .bool true, .bool false]⟩, .int .i64 0]⟩, .cells false gl, .cells own L), ixP p k :: ldP L p [.int .u8 53, .int .u8 d, .int .u8 0, .int .i16 o, .int .i32 n] :: [gtr5 d]) ∧ evenX (alR own L [.int .u8 53, .int .u8 d, .int .u8 0, .int .i16 o, .int .i32 n] [] k p) := ⟨by kernel_rfl, by unfold evenX; kernel_rfl⟩
theorem of_jif5 (d o n : Int) : ansX (ofR 31 [.int .u8 85, .int .u8 d, .int .u8 0, .int .i16 o, .int .i32 n]) = some ((.tuple ⟨[.agg ⟨[.int .i64 6, .int .i64 5, .int .i64 0, .bool true, .bool false]⟩, .int .i64 0]⟩, .cells false gl), [gtr5 d]) ∧ evenX (ofR 31 [.int .u8 85, .int .u8 d, .int .u8 0, .int .i16 o, .int .i32 n]) := ⟨by kernel_rfl, by unfold evenX; kernel_rfl⟩
theorem pl_jif5 (d o n : Int) : ansX (ofR 32 [.int .u8 85, .int .u8 d, .int .u8 0, .int .i16 o, .int .i32 n]) = some ((.int .i64 1, .cells false gl), [gtr5 d]) ∧ evenX (ofR 32 [.int .u8 85, .int .u8 d, .int .u8 0, .int .i16 o, .int .i32 n]) := ⟨by kernel_rfl, by unfold evenX; kernel_rfl⟩
theorem al_jif5 (d o n : Int) (own : Bool) (L : List Value) (k : Nat) (p : Int) : ansX (alR own L [.int .u8 85, .int .u8 d, .int .u8 0, .int .i16 o, .int .i32 n] [] k p) = some ((.tuple ⟨[.agg ⟨[.int .i64 6, .int .i64 5, .int .i64 0, .bool true, .bool false]⟩, .int .i64 0]⟩, .cells false gl, .cells own L), ixP p k :: ldP L p [.int .u8 85, .int .u8 d, .int .u8 0, .int .i16 o, .int .i32 n] :: [gtr5 d]) ∧ evenX (alR own L [.int .u8 85, .int .u8 d, .int .u8 0, .int .i16 o, .int .i32 n] [] k p) := ⟨by kernel_rfl, by unfold evenX; kernel_rfl⟩
theorem of_jif10 (d o n : Int) : ansX (ofR 31 [.int .u8 165, .int .u8 d, .int .u8 0, .int .i16 o, .int .i32 n]) = some ((.tuple ⟨[.agg ⟨[.int .i64 6, .int .i64 10, .int .i64 0, .bool true, .bool false]⟩, .int .i64 0]⟩, .cells false gl), [gtr5 d]) ∧ evenX (ofR 31 [.int .u8 165, .int .u8 d, .int .u8 0, .int .i16 o, .int .i32 n]) := ⟨by kernel_rfl, by unfold evenX; kernel_rfl⟩
theorem pl_jif10 (d o n : Int) : ansX (ofR 32 [.int .u8 165, .int .u8 d, .int .u8 0, .int .i16 o, .int .i32 n]) = some ((.int .i64 1, .cells false gl), [gtr5 d]) ∧ evenX (ofR 32 [.int .u8 165, .int .u8 d, .int .u8 0, .int .i16 o, .int .i32 n]) := ⟨by kernel_rfl, by unfold evenX; kernel_rfl⟩
theorem al_jif10 (d o n : Int) (own : Bool) (L : List Value) (k : Nat) (p : Int) : ansX (alR own L [.int .u8 165, .int .u8 d, .int .u8 0, .int .i16 o, .int .i32 n] [] k p) = some ((.tuple ⟨[.agg ⟨[.int .i64 6, .int .i64 10, .int .i64 0, .bool true, .bool false]⟩, .int .i64 0]⟩, .cells false gl, .cells own L), ixP p k :: ldP L p [.int .u8 165, .int .u8 d, .int .u8 0, .int .i16 o, .int .i32 n] :: [gtr5 d]) ∧ evenX (alR own L [.int .u8 165, .int .u8 d, .int .u8 0, .int .i16 o, .int .i32 n] [] k p) := ⟨by kernel_rfl, by unfold evenX; kernel_rfl⟩
theorem of_jif2 (d o n : Int) : ansX (ofR 31 [.int .u8 37, .int .u8 d, .int .u8 0, .int .i16 o, .int .i32 n]) = some ((.tuple ⟨[.agg ⟨[.int .i64 6, .int .i64 2, .int .i64 0, .bool true, .bool false]⟩, .int .i64 0]⟩, .cells false gl), [gtr5 d]) ∧ evenX (ofR 31 [.int .u8 37, .int .u8 d, .int .u8 0, .int .i16 o, .int .i32 n]) := ⟨by kernel_rfl, by unfold evenX; kernel_rfl⟩
theorem pl_jif2 (d o n : Int) : ansX (ofR 32 [.int .u8 37, .int .u8 d, .int .u8 0, .int .i16 o, .int .i32 n]) = some ((.int .i64 1, .cells false gl), [gtr5 d]) ∧ evenX (ofR 32 [.int .u8 37, .int .u8 d, .int .u8 0, .int .i16 o, .int .i32 n]) := ⟨by kernel_rfl, by unfold evenX; kernel_rfl⟩
theorem al_jif2 (d o n : Int) (own : Bool) (L : List Value) (k : Nat) (p : Int) : ansX (alR own L [.int .u8 37, .int .u8 d, .int .u8 0, .int .i16 o, .int .i32 n] [] k p) = some ((.tuple ⟨[.agg ⟨[.int .i64 6, .int .i64 2, .int .i64 0, .bool true, .bool false]⟩, .int .i64 0]⟩, .cells false gl, .cells own L), ixP p k :: ldP L p [.int .u8 37, .int .u8 d, .int .u8 0, .int .i16 o, .int .i32 n] :: [gtr5 d]) ∧ evenX (alR own L [.int .u8 37, .int .u8 d, .int .u8 0, .int .i16 o, .int .i32 n] [] k p) := ⟨by kernel_rfl, by unfold evenX; kernel_rfl⟩
theorem of_jifR10 (o : Int) : ansX (ofR 31 [.int .u8 173, .int .u8 2, .int .u8 3, .int .i16 o, .int .i32 0]) = some ((.tuple ⟨[.agg ⟨[.int .i64 6, .int .i64 10, .int .i64 0, .bool true, .bool true]⟩, .int .i64 0]⟩, .cells false gl), [gtr5 2, gtr5 3]) ∧ evenX (ofR 31 [.int .u8 173, .int .u8 2, .int .u8 3, .int .i16 o, .int .i32 0]) := ⟨by kernel_rfl, by unfold evenX; kernel_rfl⟩
theorem pl_jifR10 (o : Int) : ansX (ofR 32 [.int .u8 173, .int .u8 2, .int .u8 3, .int .i16 o, .int .i32 0]) = some ((.int .i64 1, .cells false gl), [gtr5 2, gtr5 3]) ∧ evenX (ofR 32 [.int .u8 173, .int .u8 2, .int .u8 3, .int .i16 o, .int .i32 0]) := ⟨by kernel_rfl, by unfold evenX; kernel_rfl⟩
theorem al_jifR10 (o : Int) (own : Bool) (L : List Value) (k : Nat) (p : Int) : ansX (alR own L [.int .u8 173, .int .u8 2, .int .u8 3, .int .i16 o, .int .i32 0] [] k p) = some ((.tuple ⟨[.agg ⟨[.int .i64 6, .int .i64 10, .int .i64 0, .bool true, .bool true]⟩, .int .i64 0]⟩, .cells false gl, .cells own L), ixP p k :: ldP L p [.int .u8 173, .int .u8 2, .int .u8 3, .int .i16 o, .int .i32 0] :: [gtr5 2, gtr5 3]) ∧ evenX (alR own L [.int .u8 173, .int .u8 2, .int .u8 3, .int .i16 o, .int .i32 0] [] k p) := ⟨by kernel_rfl, by unfold evenX; kernel_rfl⟩
theorem of_jifR2 (o : Int) : ansX (ofR 31 [.int .u8 45, .int .u8 2, .int .u8 3, .int .i16 o, .int .i32 0]) = some ((.tuple ⟨[.agg ⟨[.int .i64 6, .int .i64 2, .int .i64 0, .bool true, .bool true]⟩, .int .i64 0]⟩, .cells false gl), [gtr5 2, gtr5 3]) ∧ evenX (ofR 31 [.int .u8 45, .int .u8 2, .int .u8 3, .int .i16 o, .int .i32 0]) := ⟨by kernel_rfl, by unfold evenX; kernel_rfl⟩
theorem pl_jifR2 (o : Int) : ansX (ofR 32 [.int .u8 45, .int .u8 2, .int .u8 3, .int .i16 o, .int .i32 0]) = some ((.int .i64 1, .cells false gl), [gtr5 2, gtr5 3]) ∧ evenX (ofR 32 [.int .u8 45, .int .u8 2, .int .u8 3, .int .i16 o, .int .i32 0]) := ⟨by kernel_rfl, by unfold evenX; kernel_rfl⟩
theorem al_jifR2 (o : Int) (own : Bool) (L : List Value) (k : Nat) (p : Int) : ansX (alR own L [.int .u8 45, .int .u8 2, .int .u8 3, .int .i16 o, .int .i32 0] [] k p) = some ((.tuple ⟨[.agg ⟨[.int .i64 6, .int .i64 2, .int .i64 0, .bool true, .bool true]⟩, .int .i64 0]⟩, .cells false gl, .cells own L), ixP p k :: ldP L p [.int .u8 45, .int .u8 2, .int .u8 3, .int .i16 o, .int .i32 0] :: [gtr5 2, gtr5 3]) ∧ evenX (alR own L [.int .u8 45, .int .u8 2, .int .u8 3, .int .i16 o, .int .i32 0] [] k p) := ⟨by kernel_rfl, by unfold evenX; kernel_rfl⟩
theorem of_goto (o : Int) : ansX (ofR 31 [.int .u8 5, .int .u8 0, .int .u8 0, .int .i16 o, .int .i32 0]) = some ((.tuple ⟨[.agg ⟨[.int .i64 7, .int .i64 0, .int .i64 0, .bool false, .bool false]⟩, .int .i64 0]⟩, .cells false gl), []) ∧ evenX (ofR 31 [.int .u8 5, .int .u8 0, .int .u8 0, .int .i16 o, .int .i32 0]) := ⟨by kernel_rfl, by unfold evenX; kernel_rfl⟩
theorem pl_goto (o : Int) : ansX (ofR 32 [.int .u8 5, .int .u8 0, .int .u8 0, .int .i16 o, .int .i32 0]) = some ((.int .i64 1, .cells false gl), []) ∧ evenX (ofR 32 [.int .u8 5, .int .u8 0, .int .u8 0, .int .i16 o, .int .i32 0]) := ⟨by kernel_rfl, by unfold evenX; kernel_rfl⟩
theorem al_goto (o : Int) (own : Bool) (L : List Value) (k : Nat) (p : Int) : ansX (alR own L [.int .u8 5, .int .u8 0, .int .u8 0, .int .i16 o, .int .i32 0] [] k p) = some ((.tuple ⟨[.agg ⟨[.int .i64 7, .int .i64 0, .int .i64 0, .bool false, .bool false]⟩, .int .i64 0]⟩, .cells false gl, .cells own L), ixP p k :: ldP L p [.int .u8 5, .int .u8 0, .int .u8 0, .int .i16 o, .int .i32 0] :: []) ∧ evenX (alR own L [.int .u8 5, .int .u8 0, .int .u8 0, .int .i16 o, .int .i32 0] [] k p) := ⟨by kernel_rfl, by unfold evenX; kernel_rfl⟩
theorem of_const (n : Int) : ansX (ofR 31 [.int .u8 24, .int .u8 3, .int .u8 0, .int .i16 0, .int .i32 n]) = some ((.tuple ⟨[.agg ⟨[.int .i64 10, .int .i64 0, .int .i64 0, .bool false, .bool false]⟩, .int .i64 0]⟩, .cells false gl), [gtr5 3, eql5 3]) ∧ evenX (ofR 31 [.int .u8 24, .int .u8 3, .int .u8 0, .int .i16 0, .int .i32 n]) := ⟨by kernel_rfl, by unfold evenX; kernel_rfl⟩
theorem pl_const (n : Int) : ansX (ofR 32 [.int .u8 24, .int .u8 3, .int .u8 0, .int .i16 0, .int .i32 n]) = some ((.int .i64 2, .cells false gl), [gtr5 3, eql5 3]) ∧ evenX (ofR 32 [.int .u8 24, .int .u8 3, .int .u8 0, .int .i16 0, .int .i32 n]) := ⟨by kernel_rfl, by unfold evenX; kernel_rfl⟩
theorem al_const (n : Int) (h : Int) (own : Bool) (L : List Value) (k : Nat) (p : Int) : ansX (alR own L [.int .u8 24, .int .u8 3, .int .u8 0, .int .i16 0, .int .i32 n] [.int .u8 0, .int .u8 0, .int .u8 0, .int .i16 0, .int .i32 h] k p) = some ((.tuple ⟨[.agg ⟨[.int .i64 10, .int .i64 0, .int .i64 0, .bool false, .bool false]⟩, .int .i64 0]⟩, .cells false gl, .cells own L), ixP p k :: ldP L p [.int .u8 24, .int .u8 3, .int .u8 0, .int .i16 0, .int .i32 n] :: ([gtr5 3, eql5 3] ++ [eqNP p k, ixP (IntKind.wrap .i64 (Int.add p 1)) k, ldP L (IntKind.wrap .i64 (Int.add p 1)) [.int .u8 0, .int .u8 0, .int .u8 0, .int .i16 0, .int .i32 h]])) ∧ evenX (alR own L [.int .u8 24, .int .u8 3, .int .u8 0, .int .i16 0, .int .i32 n] [.int .u8 0, .int .u8 0, .int .u8 0, .int .i16 0, .int .i32 h] k p) := ⟨by kernel_rfl, by unfold evenX; kernel_rfl⟩
end
end Go.Proofs.YtipdeijgaabobaaGreatDoor
/-
  VShape2: what Of, Places and alone answer on every form (printed by mkcheck.py).
-/
namespace Go.Proofs.YtipdeijgaabobaaGreatDoor
open Go Go.DI Go.DI.Kit Go.Proofs Go.Cmp
noncomputable section
noncomputable abbrev cf0 : DFun := callO Tryz.prog kp 1 noOrc 20
theorem hO_on {x y : List Value} (f : FuncId) (v : Value) (args : List Value) (m : Mem) (hc : (hO x y).call f = some v) (hs : (hO x y).says f args m v) : noOrc f args m = some (v, (hO x y).eff f m) := by cases hc
theorem hO_off {x y : List Value} (f : FuncId) (hc : (hO x y).call f = none) (a : List Value) (m : Mem) : noOrc f a m = none := rfl
theorem of_run {f : FuncId} {x : List Value} {v : Value} {qs : List Prop} (h : ansX (ofR f x) = some ((v, .cells false gl), qs) ∧ evenX (ofR f x)) (hq : ∀ q ∈ qs, q) : ∃ m, cf0 f [.agg ⟨x⟩] (mS gl []) = some (v, m) ∧ m.get 0 = .cells false gl := by
  obtain ⟨v', m, a1, a2⟩ := H.callO_H (H := hO [] []) (o := noOrc) (P := Tryz.prog) (K := kp) (G := 1) (k := 20) (f := f) (args := [.agg ⟨x⟩]) (m := mS gl []) (g := fun v m => (v, m.get 0)) hO_on hO_off h.1 h.2 hq
  have e1 : v' = v := congrArg (fun x => x.1) a2
  have e2 : m.get 0 = .cells false gl := congrArg (fun x => x.2) a2
  exact ⟨m, by rw [← e1]; exact a1, e2⟩
def AlRun (own : Bool) (L : List Value) (k : Nat) (p : Int) (w : List Value) : Prop := ∃ m, cf0 67 [imgV (sliceN 1 k), .int .i64 p] (mS gl [.cells own L]) = some (.tuple ⟨[.agg ⟨w⟩, .int .i64 0]⟩, m) ∧ m.get 0 = .cells false gl ∧ m.get 1 = .cells own L
theorem al_run {own : Bool} {L x y w : List Value} {k : Nat} {p : Int} {qs : List Prop} (h : ansX (alR own L x y k p) = some ((.tuple ⟨[.agg ⟨w⟩, .int .i64 0]⟩, .cells false gl, .cells own L), qs) ∧ evenX (alR own L x y k p)) (hq : ∀ q ∈ qs, q) : AlRun own L k p w := by
  obtain ⟨v', m, a1, a2⟩ := H.callO_H (H := hO x y) (o := noOrc) (P := Tryz.prog) (K := kp) (G := 1) (k := 20) (f := 67) (args := [imgV (sliceN 1 k), .int .i64 p]) (m := mS gl [.cells own L]) (g := fun v m => (v, m.get 0, m.get 1)) hO_on hO_off h.1 h.2 hq
  have e1 : v' = _ := congrArg (fun x => x.1) a2
  have e2 : m.get 0 = _ := congrArg (fun x => x.2.1) a2
  have e3 : m.get 1 = _ := congrArg (fun x => x.2.2) a2
  exact ⟨m, a1.trans (by rw [e1]), e2, e3⟩
def OfRun (x : Ins) (w : List Value) : Prop := ∃ m, cf0 31 [.agg ⟨insC x⟩] (mS gl []) = some (.tuple ⟨[.agg ⟨w⟩, .int .i64 0]⟩, m) ∧ m.get 0 = .cells false gl
def PlRun (x : Ins) (n : Int) : Prop := ∃ m, cf0 32 [.agg ⟨insC x⟩] (mS gl []) = some (.int .i64 n, m) ∧ m.get 0 = .cells false gl
structure Form (x : Ins) (w : List Value) : Prop where
  of : ∃ m, cf0 31 [.agg ⟨insC x⟩] (mS gl []) = some (.tuple ⟨[.agg ⟨w⟩, .int .i64 0]⟩, m) ∧ m.get 0 = .cells false gl
  pl : ∃ m, cf0 32 [.agg ⟨insC x⟩] (mS gl []) = some (.int .i64 1, m) ∧ m.get 0 = .cells false gl
  al : ∀ (own : Bool) (l : List Ins) (p : Nat), l[p]? = some x → AlRun own (codeC l) l.length (p : Int) w
theorem cons_p {p : Prop} {l : List Prop} (h : p) (hl : ∀ q ∈ l, q) : ∀ q ∈ p :: l, q := fun q hq => by
  rcases List.mem_cons.1 hq with rfl | hq
  · exact h
  · exact hl q hq
theorem nil_p : ∀ q ∈ ([] : List Prop), q := fun q hq => by cases hq
theorem rg10 {d : Int} (h : 0 ≤ d) (h' : d ≤ 9) : reg10 d := ⟨h, h'⟩
theorem gtr5_of {d : Int} (h : reg10 d) : gtr5 d := by
  have := h.2
  unfold gtr5
  simp [binD, binInt, shiftB]; omega
theorem eql5_of {d : Int} (h : reg10 d) : eql5 d := by
  have := h.2
  unfold eql5
  simp [binD, binInt, shiftB]; omega
theorem ixP_of {l : List Ins} {p : Nat} {x : Ins} (h : l[p]? = some x) : ixP (p : Int) l.length := by
  have := (List.getElem?_eq_some_iff.1 h).1
  exact ⟨by omega, by omega⟩
theorem ldP_of {l : List Ins} {p : Nat} {x : Ins} (h : l[p]? = some x) : ldP (codeC l) (p : Int) (insC x) := (props2 h).2
theorem up_nat {p : Nat} (h : p ≤ 1000000) : IntKind.wrap .i64 (Int.add (p : Int) 1) = ((p + 1 : Nat) : Int) := wrap_succ (by omega)
theorem fm_movI {d n : Int} (hd : reg10 d) : Form (iNum 11 d n) [.int .i64 1, .int .i64 11, .int .i64 0, .bool true, .bool false] := by
  have e : insC (iNum 11 d n) = [.int .u8 183, .int .u8 d, .int .u8 0, .int .i16 0, .int .i32 n] := by kernel_rfl
  exact ⟨by rw [e]; exact of_run (of_movI d n) (cons_p (gtr5_of hd) (cons_p (eql5_of hd) nil_p)), by rw [e]; exact of_run (pl_movI d n) (cons_p (gtr5_of hd) (cons_p (eql5_of hd) nil_p)), fun own l p h => al_run (al_movI d n own (codeC l) l.length (p : Int)) (cons_p (ixP_of h) (cons_p (by rw [← e]; exact ldP_of h) (cons_p (gtr5_of hd) (cons_p (eql5_of hd) nil_p))))⟩
theorem fm_andI {d n : Int} (hd : reg10 d) : Form (iNum 5 d n) [.int .i64 1, .int .i64 5, .int .i64 0, .bool true, .bool false] := by
  have e : insC (iNum 5 d n) = [.int .u8 87, .int .u8 d, .int .u8 0, .int .i16 0, .int .i32 n] := by kernel_rfl
  exact ⟨by rw [e]; exact of_run (of_andI d n) (cons_p (gtr5_of hd) (cons_p (eql5_of hd) nil_p)), by rw [e]; exact of_run (pl_andI d n) (cons_p (gtr5_of hd) (cons_p (eql5_of hd) nil_p)), fun own l p h => al_run (al_andI d n own (codeC l) l.length (p : Int)) (cons_p (ixP_of h) (cons_p (by rw [← e]; exact ldP_of h) (cons_p (gtr5_of hd) (cons_p (eql5_of hd) nil_p))))⟩
theorem fm_movR {d s : Int} (hd : reg10 d) (hs : reg10 s) : Form (iRegs 11 d s) [.int .i64 1, .int .i64 11, .int .i64 0, .bool true, .bool true] := by
  have e : insC (iRegs 11 d s) = [.int .u8 191, .int .u8 d, .int .u8 s, .int .i16 0, .int .i32 0] := by kernel_rfl
  exact ⟨by rw [e]; exact of_run (of_movR d s) (cons_p (gtr5_of hd) (cons_p (eql5_of hd) (cons_p (gtr5_of hs) nil_p))), by rw [e]; exact of_run (pl_movR d s) (cons_p (gtr5_of hd) (cons_p (eql5_of hd) (cons_p (gtr5_of hs) nil_p))), fun own l p h => al_run (al_movR d s own (codeC l) l.length (p : Int)) (cons_p (ixP_of h) (cons_p (by rw [← e]; exact ldP_of h) (cons_p (gtr5_of hd) (cons_p (eql5_of hd) (cons_p (gtr5_of hs) nil_p)))))⟩
theorem fm_andR {d s : Int} (hd : reg10 d) (hs : reg10 s) : Form (iRegs 5 d s) [.int .i64 1, .int .i64 5, .int .i64 0, .bool true, .bool true] := by
  have e : insC (iRegs 5 d s) = [.int .u8 95, .int .u8 d, .int .u8 s, .int .i16 0, .int .i32 0] := by kernel_rfl
  exact ⟨by rw [e]; exact of_run (of_andR d s) (cons_p (gtr5_of hd) (cons_p (eql5_of hd) (cons_p (gtr5_of hs) nil_p))), by rw [e]; exact of_run (pl_andR d s) (cons_p (gtr5_of hd) (cons_p (eql5_of hd) (cons_p (gtr5_of hs) nil_p))), fun own l p h => al_run (al_andR d s own (codeC l) l.length (p : Int)) (cons_p (ixP_of h) (cons_p (by rw [← e]; exact ldP_of h) (cons_p (gtr5_of hd) (cons_p (eql5_of hd) (cons_p (gtr5_of hs) nil_p)))))⟩
theorem fm_low {n : Int} : Form (iLow n) [.int .i64 1, .int .i64 11, .int .i64 0, .bool false, .bool false] := by
  have e : insC (iLow n) = [.int .u8 180, .int .u8 0, .int .u8 0, .int .i16 0, .int .i32 n] := by kernel_rfl
  exact ⟨by rw [e]; exact of_run (of_low n) (cons_p (gtr5_of (rg10 (by decide) (by decide))) (cons_p (eql5_of (rg10 (by decide) (by decide))) nil_p)), by rw [e]; exact of_run (pl_low n) (cons_p (gtr5_of (rg10 (by decide) (by decide))) (cons_p (eql5_of (rg10 (by decide) (by decide))) nil_p)), fun own l p h => al_run (al_low n own (codeC l) l.length (p : Int)) (cons_p (ixP_of h) (cons_p (by rw [← e]; exact ldP_of h) (cons_p (gtr5_of (rg10 (by decide) (by decide))) (cons_p (eql5_of (rg10 (by decide) (by decide))) nil_p))))⟩
theorem fm_exit  : Form (iExit) [.int .i64 9, .int .i64 0, .int .i64 0, .bool false, .bool false] := by
  have e : insC (iExit) = [.int .u8 149, .int .u8 0, .int .u8 0, .int .i16 0, .int .i32 0] := by kernel_rfl
  exact ⟨by rw [e]; exact of_run (of_exit ) nil_p, by rw [e]; exact of_run (pl_exit ) nil_p, fun own l p h => al_run (al_exit  own (codeC l) l.length (p : Int)) (cons_p (ixP_of h) (cons_p (by rw [← e]; exact ldP_of h) nil_p))⟩
theorem fm_load1 {d s o : Int} (hd : reg10 d) (hs : reg10 s) : Form (iLoad 1 d s o) [.int .i64 3, .int .i64 0, .int .i64 1, .bool false, .bool false] := by
  have e : insC (iLoad 1 d s o) = [.int .u8 113, .int .u8 d, .int .u8 s, .int .i16 (w16 o), .int .i32 0] := by kernel_rfl
  exact ⟨by rw [e]; exact of_run (of_load1 d s (w16 o)) (cons_p (gtr5_of hd) (cons_p (eql5_of hd) (cons_p (gtr5_of hs) nil_p))), by rw [e]; exact of_run (pl_load1 d s (w16 o)) (cons_p (gtr5_of hd) (cons_p (eql5_of hd) (cons_p (gtr5_of hs) nil_p))), fun own l p h => al_run (al_load1 d s (w16 o) own (codeC l) l.length (p : Int)) (cons_p (ixP_of h) (cons_p (by rw [← e]; exact ldP_of h) (cons_p (gtr5_of hd) (cons_p (eql5_of hd) (cons_p (gtr5_of hs) nil_p)))))⟩
theorem fm_load2 {d s o : Int} (hd : reg10 d) (hs : reg10 s) : Form (iLoad 2 d s o) [.int .i64 3, .int .i64 0, .int .i64 2, .bool false, .bool false] := by
  have e : insC (iLoad 2 d s o) = [.int .u8 105, .int .u8 d, .int .u8 s, .int .i16 (w16 o), .int .i32 0] := by kernel_rfl
  exact ⟨by rw [e]; exact of_run (of_load2 d s (w16 o)) (cons_p (gtr5_of hd) (cons_p (eql5_of hd) (cons_p (gtr5_of hs) nil_p))), by rw [e]; exact of_run (pl_load2 d s (w16 o)) (cons_p (gtr5_of hd) (cons_p (eql5_of hd) (cons_p (gtr5_of hs) nil_p))), fun own l p h => al_run (al_load2 d s (w16 o) own (codeC l) l.length (p : Int)) (cons_p (ixP_of h) (cons_p (by rw [← e]; exact ldP_of h) (cons_p (gtr5_of hd) (cons_p (eql5_of hd) (cons_p (gtr5_of hs) nil_p)))))⟩
theorem fm_load4 {d s o : Int} (hd : reg10 d) (hs : reg10 s) : Form (iLoad 4 d s o) [.int .i64 3, .int .i64 0, .int .i64 4, .bool false, .bool false] := by
  have e : insC (iLoad 4 d s o) = [.int .u8 97, .int .u8 d, .int .u8 s, .int .i16 (w16 o), .int .i32 0] := by kernel_rfl
  exact ⟨by rw [e]; exact of_run (of_load4 d s (w16 o)) (cons_p (gtr5_of hd) (cons_p (eql5_of hd) (cons_p (gtr5_of hs) nil_p))), by rw [e]; exact of_run (pl_load4 d s (w16 o)) (cons_p (gtr5_of hd) (cons_p (eql5_of hd) (cons_p (gtr5_of hs) nil_p))), fun own l p h => al_run (al_load4 d s (w16 o) own (codeC l) l.length (p : Int)) (cons_p (ixP_of h) (cons_p (by rw [← e]; exact ldP_of h) (cons_p (gtr5_of hd) (cons_p (eql5_of hd) (cons_p (gtr5_of hs) nil_p)))))⟩
theorem fm_load8 {d s o : Int} (hd : reg10 d) (hs : reg10 s) : Form (iLoad 8 d s o) [.int .i64 3, .int .i64 0, .int .i64 8, .bool false, .bool false] := by
  have e : insC (iLoad 8 d s o) = [.int .u8 121, .int .u8 d, .int .u8 s, .int .i16 (w16 o), .int .i32 0] := by kernel_rfl
  exact ⟨by rw [e]; exact of_run (of_load8 d s (w16 o)) (cons_p (gtr5_of hd) (cons_p (eql5_of hd) (cons_p (gtr5_of hs) nil_p))), by rw [e]; exact of_run (pl_load8 d s (w16 o)) (cons_p (gtr5_of hd) (cons_p (eql5_of hd) (cons_p (gtr5_of hs) nil_p))), fun own l p h => al_run (al_load8 d s (w16 o) own (codeC l) l.length (p : Int)) (cons_p (ixP_of h) (cons_p (by rw [← e]; exact ldP_of h) (cons_p (gtr5_of hd) (cons_p (eql5_of hd) (cons_p (gtr5_of hs) nil_p)))))⟩
theorem fm_swap2  : Form (iSwap 2) [.int .i64 2, .int .i64 0, .int .i64 2, .bool false, .bool false] := by
  have e : insC (iSwap 2) = [.int .u8 215, .int .u8 2, .int .u8 0, .int .i16 0, .int .i32 16] := by kernel_rfl
  exact ⟨by rw [e]; exact of_run (of_swap2 ) (cons_p (gtr5_of (rg10 (by decide) (by decide))) (cons_p (eql5_of (rg10 (by decide) (by decide))) nil_p)), by rw [e]; exact of_run (pl_swap2 ) (cons_p (gtr5_of (rg10 (by decide) (by decide))) (cons_p (eql5_of (rg10 (by decide) (by decide))) nil_p)), fun own l p h => al_run (al_swap2  own (codeC l) l.length (p : Int)) (cons_p (ixP_of h) (cons_p (by rw [← e]; exact ldP_of h) (cons_p (gtr5_of (rg10 (by decide) (by decide))) (cons_p (eql5_of (rg10 (by decide) (by decide))) nil_p))))⟩
theorem fm_swap4  : Form (iSwap 4) [.int .i64 2, .int .i64 0, .int .i64 4, .bool false, .bool false] := by
  have e : insC (iSwap 4) = [.int .u8 215, .int .u8 2, .int .u8 0, .int .i16 0, .int .i32 32] := by kernel_rfl
  exact ⟨by rw [e]; exact of_run (of_swap4 ) (cons_p (gtr5_of (rg10 (by decide) (by decide))) (cons_p (eql5_of (rg10 (by decide) (by decide))) nil_p)), by rw [e]; exact of_run (pl_swap4 ) (cons_p (gtr5_of (rg10 (by decide) (by decide))) (cons_p (eql5_of (rg10 (by decide) (by decide))) nil_p)), fun own l p h => al_run (al_swap4  own (codeC l) l.length (p : Int)) (cons_p (ixP_of h) (cons_p (by rw [← e]; exact ldP_of h) (cons_p (gtr5_of (rg10 (by decide) (by decide))) (cons_p (eql5_of (rg10 (by decide) (by decide))) nil_p))))⟩
theorem fm_swap8  : Form (iSwap 8) [.int .i64 2, .int .i64 0, .int .i64 8, .bool false, .bool false] := by
  have e : insC (iSwap 8) = [.int .u8 215, .int .u8 2, .int .u8 0, .int .i16 0, .int .i32 64] := by kernel_rfl
  exact ⟨by rw [e]; exact of_run (of_swap8 ) (cons_p (gtr5_of (rg10 (by decide) (by decide))) (cons_p (eql5_of (rg10 (by decide) (by decide))) nil_p)), by rw [e]; exact of_run (pl_swap8 ) (cons_p (gtr5_of (rg10 (by decide) (by decide))) (cons_p (eql5_of (rg10 (by decide) (by decide))) nil_p)), fun own l p h => al_run (al_swap8  own (codeC l) l.length (p : Int)) (cons_p (ixP_of h) (cons_p (by rw [← e]; exact ldP_of h) (cons_p (gtr5_of (rg10 (by decide) (by decide))) (cons_p (eql5_of (rg10 (by decide) (by decide))) nil_p))))⟩
theorem fm_jif3 {d o n : Int} (hd : reg10 d) : Form (offS (iIf 3 d n) o) [.int .i64 6, .int .i64 3, .int .i64 0, .bool true, .bool false] := by
  have e : insC (offS (iIf 3 d n) o) = [.int .u8 53, .int .u8 d, .int .u8 0, .int .i16 o, .int .i32 n] := by kernel_rfl
  exact ⟨by rw [e]; exact of_run (of_jif3 d o n) (cons_p (gtr5_of hd) nil_p), by rw [e]; exact of_run (pl_jif3 d o n) (cons_p (gtr5_of hd) nil_p), fun own l p h => al_run (al_jif3 d o n own (codeC l) l.length (p : Int)) (cons_p (ixP_of h) (cons_p (by rw [← e]; exact ldP_of h) (cons_p (gtr5_of hd) nil_p)))⟩
theorem fm_jif5 {d o n : Int} (hd : reg10 d) : Form (offS (iIf 5 d n) o) [.int .i64 6, .int .i64 5, .int .i64 0, .bool true, .bool false] := by
  have e : insC (offS (iIf 5 d n) o) = [.int .u8 85, .int .u8 d, .int .u8 0, .int .i16 o, .int .i32 n] := by kernel_rfl
  exact ⟨by rw [e]; exact of_run (of_jif5 d o n) (cons_p (gtr5_of hd) nil_p), by rw [e]; exact of_run (pl_jif5 d o n) (cons_p (gtr5_of hd) nil_p), fun own l p h => al_run (al_jif5 d o n own (codeC l) l.length (p : Int)) (cons_p (ixP_of h) (cons_p (by rw [← e]; exact ldP_of h) (cons_p (gtr5_of hd) nil_p)))⟩
theorem fm_jif10 {d o n : Int} (hd : reg10 d) : Form (offS (iIf 10 d n) o) [.int .i64 6, .int .i64 10, .int .i64 0, .bool true, .bool false] := by
  have e : insC (offS (iIf 10 d n) o) = [.int .u8 165, .int .u8 d, .int .u8 0, .int .i16 o, .int .i32 n] := by kernel_rfl
  exact ⟨by rw [e]; exact of_run (of_jif10 d o n) (cons_p (gtr5_of hd) nil_p), by rw [e]; exact of_run (pl_jif10 d o n) (cons_p (gtr5_of hd) nil_p), fun own l p h => al_run (al_jif10 d o n own (codeC l) l.length (p : Int)) (cons_p (ixP_of h) (cons_p (by rw [← e]; exact ldP_of h) (cons_p (gtr5_of hd) nil_p)))⟩
theorem fm_jif2 {d o n : Int} (hd : reg10 d) : Form (offS (iIf 2 d n) o) [.int .i64 6, .int .i64 2, .int .i64 0, .bool true, .bool false] := by
  have e : insC (offS (iIf 2 d n) o) = [.int .u8 37, .int .u8 d, .int .u8 0, .int .i16 o, .int .i32 n] := by kernel_rfl
  exact ⟨by rw [e]; exact of_run (of_jif2 d o n) (cons_p (gtr5_of hd) nil_p), by rw [e]; exact of_run (pl_jif2 d o n) (cons_p (gtr5_of hd) nil_p), fun own l p h => al_run (al_jif2 d o n own (codeC l) l.length (p : Int)) (cons_p (ixP_of h) (cons_p (by rw [← e]; exact ldP_of h) (cons_p (gtr5_of hd) nil_p)))⟩
theorem fm_jifR10 {o : Int} : Form (offS (iIfR 10) o) [.int .i64 6, .int .i64 10, .int .i64 0, .bool true, .bool true] := by
  have e : insC (offS (iIfR 10) o) = [.int .u8 173, .int .u8 2, .int .u8 3, .int .i16 o, .int .i32 0] := by kernel_rfl
  exact ⟨by rw [e]; exact of_run (of_jifR10 o) (cons_p (gtr5_of (rg10 (by decide) (by decide))) (cons_p (gtr5_of (rg10 (by decide) (by decide))) nil_p)), by rw [e]; exact of_run (pl_jifR10 o) (cons_p (gtr5_of (rg10 (by decide) (by decide))) (cons_p (gtr5_of (rg10 (by decide) (by decide))) nil_p)), fun own l p h => al_run (al_jifR10 o own (codeC l) l.length (p : Int)) (cons_p (ixP_of h) (cons_p (by rw [← e]; exact ldP_of h) (cons_p (gtr5_of (rg10 (by decide) (by decide))) (cons_p (gtr5_of (rg10 (by decide) (by decide))) nil_p))))⟩
theorem fm_jifR2 {o : Int} : Form (offS (iIfR 2) o) [.int .i64 6, .int .i64 2, .int .i64 0, .bool true, .bool true] := by
  have e : insC (offS (iIfR 2) o) = [.int .u8 45, .int .u8 2, .int .u8 3, .int .i16 o, .int .i32 0] := by kernel_rfl
  exact ⟨by rw [e]; exact of_run (of_jifR2 o) (cons_p (gtr5_of (rg10 (by decide) (by decide))) (cons_p (gtr5_of (rg10 (by decide) (by decide))) nil_p)), by rw [e]; exact of_run (pl_jifR2 o) (cons_p (gtr5_of (rg10 (by decide) (by decide))) (cons_p (gtr5_of (rg10 (by decide) (by decide))) nil_p)), fun own l p h => al_run (al_jifR2 o own (codeC l) l.length (p : Int)) (cons_p (ixP_of h) (cons_p (by rw [← e]; exact ldP_of h) (cons_p (gtr5_of (rg10 (by decide) (by decide))) (cons_p (gtr5_of (rg10 (by decide) (by decide))) nil_p))))⟩
theorem fm_goto {o : Int} : Form (offS iGoto o) [.int .i64 7, .int .i64 0, .int .i64 0, .bool false, .bool false] := by
  have e : insC (offS iGoto o) = [.int .u8 5, .int .u8 0, .int .u8 0, .int .i16 o, .int .i32 0] := by kernel_rfl
  exact ⟨by rw [e]; exact of_run (of_goto o) nil_p, by rw [e]; exact of_run (pl_goto o) nil_p, fun own l p h => al_run (al_goto o own (codeC l) l.length (p : Int)) (cons_p (ixP_of h) (cons_p (by rw [← e]; exact ldP_of h) nil_p))⟩
theorem fm_const {n : Int} : OfRun (iConst n) [.int .i64 10, .int .i64 0, .int .i64 0, .bool false, .bool false] ∧ PlRun (iConst n) 2 ∧ ∀ (own : Bool) (l : List Ins) (p : Nat), l[p]? = some (iConst n) → l[p + 1]? = some (iHigh n) → p + 2 < l.length → l.length ≤ 1000000 → AlRun own (codeC l) l.length (p : Int) [.int .i64 10, .int .i64 0, .int .i64 0, .bool false, .bool false] := by
  have e : insC (iConst n) = [.int .u8 24, .int .u8 3, .int .u8 0, .int .i16 0, .int .i32 (w32 (n % 4294967296))] := by kernel_rfl
  have e' : insC (iHigh n) = [.int .u8 0, .int .u8 0, .int .u8 0, .int .i16 0, .int .i32 (w32 (n / 4294967296))] := by kernel_rfl
  refine ⟨by unfold OfRun; rw [e]; exact of_run (of_const (w32 (n % 4294967296))) (cons_p (gtr5_of (rg10 (by decide) (by decide))) (cons_p (eql5_of (rg10 (by decide) (by decide))) nil_p)), by unfold PlRun; rw [e]; exact of_run (pl_const (w32 (n % 4294967296))) (cons_p (gtr5_of (rg10 (by decide) (by decide))) (cons_p (eql5_of (rg10 (by decide) (by decide))) nil_p)), fun own l p h h' hp hl => ?_⟩
  have hw : IntKind.wrap .i64 (Int.add (p : Int) 1) = ((p + 1 : Nat) : Int) := up_nat (by omega)
  exact al_run (al_const (w32 (n % 4294967296)) (w32 (n / 4294967296)) own (codeC l) l.length (p : Int)) (cons_p (ixP_of h) (cons_p (by rw [← e]; exact ldP_of h) (cons_p (gtr5_of (rg10 (by decide) (by decide))) (cons_p (eql5_of (rg10 (by decide) (by decide))) (cons_p (by unfold eqNP; rw [hw]; simp [binD, binInt, shiftB]; omega) (cons_p (by rw [hw]; exact ixP_of h') (cons_p (by rw [hw, ← e']; exact ldP_of h') nil_p)))))))
end
end Go.Proofs.YtipdeijgaabobaaGreatDoor
/-
  VIter: the iterator over the places at which instructions begin.
-/
namespace Go.Proofs.YtipdeijgaabobaaGreatDoor
open Go Go.DI Go.DI.Kit Go.Proofs Go.Cmp Go.RowKit
noncomputable section
/-! ### what the checks call -/
def op47 : List Value → Option (List Value × List Nat) := fun a => match a with
  | [.agg x] => some ([.agg x], [])
  | _ => none
def op68 : List Value → Option (List Value × List Nat) := fun a => match a with
  | [.agg ⟨[.slice none 0 0, .slice (some ⟨c, 0, none⟩) n n']⟩, .int .i64 p] => some ([.agg ⟨[.slice none 0 0, .slice (some ⟨1, 0, none⟩) n n']⟩, .int .i64 p], [c])
  | _ => none
noncomputable def oSh : Orc := oAlt (oPure gl 31 cf0 op47) (oAlt (oPure gl 32 cf0 op47) (oPure gl 67 cf0 op68))
theorem cf0_ok (B0 : Nat) : CfOK Tryz.prog B0 1 cf0 := callO_ok hmix hK hng (noOrc_ok B0) noOrc_grw 20
theorem cf0_grw : CfGrw cf0 := callO_grw noOrc_grw 20
theorem oSh_grw : CfGrw oSh := oAlt_grw (oPure_grw free_gl cf0_ok cf0_grw) (oAlt_grw (oPure_grw free_gl cf0_ok cf0_grw) (oPure_grw free_gl cf0_ok cf0_grw))
theorem oSh_ok (B0 : Nat) : CfOK Tryz.prog B0 1 oSh := oAlt_ok (oPure_ok free_gl cf0_ok cf0_grw B0) (oAlt_ok (oPure_ok free_gl cf0_ok cf0_grw B0) (oPure_ok free_gl cf0_ok cf0_grw B0))
theorem oSh_off {f : FuncId} (h1 : f ≠ 31) (h2 : f ≠ 32) (h3 : f ≠ 67) (a : List Value) (M : Mem) : oSh f a M = none := by
  unfold oSh
  rw [oAlt_r (oPure_off h1 a M), oAlt_r (oPure_off h2 a M), oPure_off h3]
theorem fits0 {M : Mem} (ht : M.top) (h0 : M.get 0 = .cells false gl) (h1 : 1 ≤ M.size) : Fits gl [] (([] : List Nat).map M.get) M :=
  ⟨ht, h0, h1, rfl, fun b hb => by simp at hb, by simp, by simp, fun i b s hi => by simp at hi, fun s hs => by simp at hs⟩
theorem insC_plain (x : Ins) : (insC x).all plain0 = true := rfl
theorem oSh_of {M : Mem} {x : Ins} {w : List Value} (ht : M.top) (h0 : M.get 0 = .cells false gl) (h1 : 1 ≤ M.size) (h : OfRun x w) (hw : w.all plain0 = true) : oSh 31 [.agg ⟨insC x⟩] M = some (.tuple ⟨[.agg ⟨w⟩, .int .i64 0]⟩, M) := by
  obtain ⟨m, a1, a2⟩ := h
  refine oAlt_l (oPure_at (op := op47) rfl (fits0 ht h0 h1) (.cons ((free_agg0 (insC_plain x)).sim _ _) .nil) a1 ?_ a2 (fun i s hi => by simp at hi))
  simp [plain2, plain1, hw]
theorem oSh_pl {M : Mem} {x : Ins} {n : Int} (ht : M.top) (h0 : M.get 0 = .cells false gl) (h1 : 1 ≤ M.size) (h : PlRun x n) : oSh 32 [.agg ⟨insC x⟩] M = some (.int .i64 n, M) := by
  obtain ⟨m, a1, a2⟩ := h
  unfold oSh
  rw [oAlt_r (oPure_off (by decide) _ M)]
  exact oAlt_l (oPure_at (op := op47) rfl (fits0 ht h0 h1) (.cons ((free_agg0 (insC_plain x)).sim _ _) .nil) a1 rfl a2 (fun i s hi => by simp at hi))
theorem oSh_al {M : Mem} {c : Nat} {own : Bool} {l : List Ins} {p : Int} {w : List Value} (ht : M.top) (h0 : M.get 0 = .cells false gl) (h1 : 1 ≤ M.size) (hc : c < M.size) (hc0 : c ≠ 0) (gc : M.get c = .cells own (codeC l)) (h : AlRun own (codeC l) l.length p w) (hw : w.all plain0 = true) :
    oSh 67 [imgV (sliceN c l.length), .int .i64 p] M = some (.tuple ⟨[.agg ⟨w⟩, .int .i64 0]⟩, M) := by
  obtain ⟨m, a1, a2, a3⟩ := h
  unfold oSh
  rw [oAlt_r (oPure_off (by decide) _ M), oAlt_r (oPure_off (by decide) _ M)]
  have hF := fits1 (o1 := own) ht h0 h1 hc hc0 gc
  refine oPure_at (op := op68) (sa := [imgV (sliceN 1 l.length), .int .i64 p]) (bs := [c]) rfl hF ?_ (m := m) (by
    show cf0 67 _ (mS gl [M.get c]) = _
    rw [gc]; exact a1) (by simp [plain2, plain1, hw]) a2 (fun i s hi => ?_)
  · have hb : (fun i => Nat.blt i (1 + [c].length)) 1 = true := rfl
    exact .cons (sim_agg (.cons ((free_slc0 _ _).sim _ _) (.cons (sim_slc (ρ := rhoE [c] M) hb) .nil))) (.cons ((free_int _ _).sim _ _) .nil)
  · rcases i with _ | i
    · have hi : some (M.get c) = some s := hi
      cases hi
      rw [gc]; exact a3
    · cases hi
/-! ### the iterator -/
noncomputable abbrev cfS : DFun := callO Tryz.prog kp 1 oSh 20
theorem cfS_ok (B0 : Nat) : CfOK Tryz.prog B0 1 cfS := callO_ok hmix hK hng (oSh_ok B0) oSh_grw 20
theorem cfS_grw : CfGrw cfS := callO_grw oSh_grw 20
noncomputable def c93 : Code := bodyOf Tryz.f102
theorem at93 : Tryz.prog.funcs[102]? = some Tryz.f102 := by kernel_rfl
theorem bd93 : Tryz.f102.body = some c93 := by kernel_rfl
noncomputable def q93 (i : Nat) : Array Oper := regA c93 i
noncomputable def t93 : Code := .seq (.seq (.region 1 (q93 1) false) (.cond (.tmp 7) .skip (.exit 0))) (.block 1 (.seq (.seq (.region 2 (q93 2) false) (.cond (.tmp 11) .ret .skip)) (.region 3 (q93 3) false)))
theorem c93_eq : c93 = .seq (.region 0 (q93 0) false) (.block 0 (.loop t93)) := by kernel_rfl
noncomputable def m93 (L : List Value) (n : Nat) : Mem := mS gl [.cells false L, .cells false [sliceN 1 n]]
noncomputable def hI (x : List Value) (lt : Bool) (pl : Int) : H.Hint where
  ix t := Nat.beq t 25
  ld _ t _ := cond (Nat.beq t 24) (some (.agg ⟨x⟩)) none
  cmp op t := cond (Nat.beq t 3) (BinOp.rec (motive := fun _ => Option Bool) none none none none none none none none none none none none none (some lt) none none none op) none
  ap _ := none
  call f := cond (Nat.beq f 32) (some (.int .i64 pl)) (cond (Nat.beq f 31) (some undef) (cond (Nat.beq f 67) (some undef) none))
  spec _ _ _ _ := False
  blk := 0
  specM f := cond (Nat.beq f 32) (some fun args m v => oSh 32 args m = some (v, m)) (some never)
theorem hI_on {x : List Value} {lt : Bool} {pl : Int} (f : FuncId) (v : Value) (args : List Value) (m : Mem) (hc : (hI x lt pl).call f = some v) (hs : (hI x lt pl).says f args m v) : oSh f args m = some (v, (hI x lt pl).eff f m) := by
  by_cases e : f = 32
  · subst e; exact hs
  · exfalso
    have e1 : Nat.beq f 32 = false := by cases hb : Nat.beq f 32 with
      | false => rfl
      | true => exact absurd (Nat.eq_of_beq_eq_true hb) e
    unfold H.Hint.says at hs
    have : (hI x lt pl).specM f = some never := by show cond (Nat.beq f 32) _ _ = _; rw [e1]; rfl
    rw [this] at hs
    exact hs
theorem hI_off {x : List Value} {lt : Bool} {pl : Int} (f : FuncId) (hc : (hI x lt pl).call f = none) (a : List Value) (m : Mem) : oSh f a m = none :=
  oSh_off (by rintro rfl; cases hc) (by rintro rfl; cases hc) (by rintro rfl; cases hc) a m
noncomputable def yV (l : Nat) : Value := .func (.yield l) #[] #[]
noncomputable def knI (l : Nat) (p : Int) : List (Nat × Value) := [(0, yV l), (1, ptrV 2 0), (3, .int .i64 p)]
abbrev SeenI := Ex × Value × Value × Value × Value × Mem
noncomputable def itR (x : List Value) (lt : Bool) (pl : Int) (c : Code) (d : Nat) (t : Tmps) (M : Mem) : Option (H.TT SeenI) :=
  H.codeT (hI x lt pl) c Tryz.prog kp 1 (H.callT (hI x lt pl) Tryz.prog kp 1 20) (fun body _ k t m q => Y.loopF body k t m q) 20 20 t M fun e t m => some ((e, t.at 0, t.at 1, t.at 3, t.at d, m), [], [])
theorem t_it0 (y : Nat → Value) (L : List Value) (n l : Nat) : ansX (itR [] false 0 (.region 0 (q93 0) false) 3 (fullN 20 (up y [(0, yV l), (1, ptrV 2 0)])) (m93 L n)) = some ((.normal, yV l, ptrV 2 0, .int .i64 0, .int .i64 0, m93 L n), []) ∧
    evenX (itR [] false 0 (.region 0 (q93 0) false) 3 (fullN 20 (up y [(0, yV l), (1, ptrV 2 0)])) (m93 L n)) := ⟨by kernel_rfl, by unfold evenX; kernel_rfl⟩
theorem t_it1 (y : Nat → Value) (L : List Value) (n l : Nat) (p : Int) (lt : Bool) : ansX (itR [] lt 0 (.region 1 (q93 1) false) 7 (fullN 20 (up y (knI l p))) (m93 L n)) = some ((.normal, yV l, ptrV 2 0, .int .i64 p, .bool lt, m93 L n), [binD Tryz.prog kp .lss 3 (.int .i64 p) (.int .i64 (Int.ofNat n)) = some (.bool lt)]) ∧
    evenX (itR [] lt 0 (.region 1 (q93 1) false) 7 (fullN 20 (up y (knI l p))) (m93 L n)) := ⟨by kernel_rfl, by unfold evenX; kernel_rfl⟩
theorem t_it3a (y : Nat → Value) (L x : List Value) (n l : Nat) (p : Int) : ansX (itR x false 1 (.region 3 (q93 3) false) 3 (fullN 20 (up y (knI l p))) (m93 L n)) = some ((.normal, yV l, ptrV 2 0, .int .i64 (IntKind.wrap .i64 (Int.add p 1)), .int .i64 (IntKind.wrap .i64 (Int.add p 1)), m93 L n), [ixP p n, ldP L p x, oSh 32 [.agg ⟨x⟩] (m93 L n) = some (.int .i64 1, m93 L n)]) ∧
    evenX (itR x false 1 (.region 3 (q93 3) false) 3 (fullN 20 (up y (knI l p))) (m93 L n)) := ⟨by kernel_rfl, by unfold evenX; kernel_rfl⟩
theorem t_it3b (y : Nat → Value) (L x : List Value) (n l : Nat) (p : Int) : ansX (itR x false 2 (.region 3 (q93 3) false) 3 (fullN 20 (up y (knI l p))) (m93 L n)) = some ((.normal, yV l, ptrV 2 0, .int .i64 (IntKind.wrap .i64 (Int.add p 2)), .int .i64 (IntKind.wrap .i64 (Int.add p 2)), m93 L n), [ixP p n, ldP L p x, oSh 32 [.agg ⟨x⟩] (m93 L n) = some (.int .i64 2, m93 L n)]) ∧
    evenX (itR x false 2 (.region 3 (q93 3) false) 3 (fullN 20 (up y (knI l p))) (m93 L n)) := ⟨by kernel_rfl, by unfold evenX; kernel_rfl⟩
end
end Go.Proofs.YtipdeijgaabobaaGreatDoor
/-
  VIter2: the iterator's contract: it gives the places at which instructions begin.
-/
namespace Go.Proofs.YtipdeijgaabobaaGreatDoor
open Go Go.DI Go.DI.Kit Go.Proofs Go.Cmp Go.RowKit
noncomputable section
abbrev Pl (l : List Ins) := {p : Nat // p ∈ startsL l}
def encP (l : List Ins) (x : Pl l) : Array Value := #[.int .i64 (x.1 : Int)]
def KpI (B0 : Nat) (ι : Ren) (l : List Ins) (A B : World) : Prop := Rel B0 1 ι (m93 (codeC l) l.length) A → Rel B0 1 ι (m93 (codeC l) l.length) B
theorem plI_run {l : List Ins} (hS : ShapeOk l) {p : Nat} {x : Ins} (hp : p ∈ startsL l) (hx : l[p]? = some x) : (plI x = 1 ∧ PlRun x 1) ∨ (plI x = 2 ∧ PlRun x 2) := by
  rcases hS.found p hp with ⟨y, hy, h1⟩ | ⟨y, o, q, hq, hy, h1, _, _, _⟩ | ⟨n, h1, h2⟩
  · rw [hx] at h1
    cases h1
    left
    cases hy with
    | movI hd => exact ⟨rfl, (fm_movI hd).pl⟩
    | andI hd => exact ⟨rfl, (fm_andI hd).pl⟩
    | movR hd hs => exact ⟨rfl, (fm_movR hd hs).pl⟩
    | andR hd hs => exact ⟨rfl, (fm_andR hd hs).pl⟩
    | low => exact ⟨rfl, fm_low.pl⟩
    | exit => exact ⟨rfl, fm_exit.pl⟩
    | load hz hd hs =>
      rcases hz with rfl | rfl | rfl | rfl
      · exact ⟨rfl, (fm_load1 hd hs).pl⟩
      · exact ⟨rfl, (fm_load2 hd hs).pl⟩
      · exact ⟨rfl, (fm_load4 hd hs).pl⟩
      · exact ⟨rfl, (fm_load8 hd hs).pl⟩
    | swap hz hz1 =>
      rcases hz with rfl | rfl | rfl | rfl
      · omega
      · exact ⟨rfl, fm_swap2.pl⟩
      · exact ⟨rfl, fm_swap4.pl⟩
      · exact ⟨rfl, fm_swap8.pl⟩
  · rw [hx] at h1
    cases h1
    left
    cases hy with
    | jif ho hd =>
      rcases ho with rfl | rfl | rfl | rfl
      · exact ⟨rfl, (fm_jif3 hd).pl⟩
      · exact ⟨rfl, (fm_jif5 hd).pl⟩
      · exact ⟨rfl, (fm_jif10 hd).pl⟩
      · exact ⟨rfl, (fm_jif2 hd).pl⟩
    | jifR ho =>
      rcases ho with rfl | rfl
      · exact ⟨rfl, fm_jifR10.pl⟩
      · exact ⟨rfl, fm_jifR2.pl⟩
    | goto => exact ⟨rfl, fm_goto.pl⟩
  · rw [hx] at h1
    cases h1
    exact .inr ⟨rfl, fm_const.2.1⟩
theorem m93_own (L : List Value) (n : Nat) : ∀ b, ((m93 L n).get b).own = false := by
  intro b
  have e : (m93 L n).get b = if b < 1 then (mG gl).get b else (match [Blk.cells false L, Blk.cells false [sliceN 1 n]][b - 1]? with | some x => x | none => (mG gl).get b) := foldl_push_get _ (mG gl) b
  have hG : ∀ b, ((mG gl).get b).own = false := fun b => by
    by_cases h : b = 0
    · subst h; rw [mG_get]; rfl
    · rw [mG_top gl b (by rw [mG_size]; omega)]; rfl
  rw [e]
  by_cases h : b < 1
  · rw [if_pos h]; exact hG b
  · rw [if_neg h]
    rcases hb : b - 1 with _ | _ | j
    · rfl
    · rfl
    · exact hG b
/-- One piece of the iterator. -/
theorem it_piece {B0 : Nat} {ι : Ren} {L : List Value} {n : Nat} {x : List Value} {lt : Bool} {pl : Int} {c : Code} {d lp : Nat} {kn : List (Nat × Value)} {y : Nat → Value} {p : Int} {u : Value} {qs : List Prop} {W : World} {a : Act} {dd : Nat}
    (h : ansX (itR x lt pl c d (fullN 20 (up y kn)) (m93 L n)) = some ((.normal, yV lp, ptrV 2 0, .int .i64 p, u, m93 L n), qs) ∧ evenX (itR x lt pl c d (fullN 20 (up y kn)) (m93 L n))) (hq : ∀ q ∈ qs, q)
    (hr : Rel B0 1 ι (m93 L n) W) (ht : TRel ι 20 (fullN 20 (up y kn)) a) {Q : Exit → Act → World → Prop}
    (hQ : ∀ a' W' t', TRel ι 20 t' a' → t'.at 0 = yV lp → t'.at 1 = ptrV 2 0 → t'.at 3 = .int .i64 p → t'.at d = u → a'.defers = a.defers → Rel B0 1 ι (m93 L n) W' → W.grownBy W' none → Q .normal a' W') : c.wpIn Fence.wide dd Tryz.prog Q a W := by
  obtain ⟨e, t', m', a1, a2⟩ := H.codeO_H (H := hI x lt pl) (o := oSh) (P := Tryz.prog) (K := kp) (G := 1) (j := 20) (n := 20) (k := 20) (c := c) (t := fullN 20 (up y kn)) (m := m93 L n) (g := fun e t m => (e, t.at 0, t.at 1, t.at 3, t.at d, m)) hI_on hI_off h.1 h.2 hq
  have e1 : e = _ := congrArg (fun x => x.1) a2
  have e2 : t'.at 0 = _ := congrArg (fun x => x.2.1) a2
  have e3 : t'.at 1 = _ := congrArg (fun x => x.2.2.1) a2
  have e4 : t'.at 3 = _ := congrArg (fun x => x.2.2.2.1) a2
  have e5 : t'.at d = _ := congrArg (fun x => x.2.2.2.2.1) a2
  have e6 : m' = _ := congrArg (fun x => x.2.2.2.2.2) a2
  simp only at e1 e2 e3 e4 e5 e6
  rw [e1, e6] at a1
  refine wpIn_wide.2 (code_ok hK (cfS_ok B0) (drawOK hmix hK (cfS_ok B0) cfS_grw) c _ _ _ _ _ a1 ι W a Q hr ht (fun b h1 h2 => absurd h2 (Nat.not_lt.2 h1)) fun a' W' ha => ?_)
  obtain ⟨ι', g1, g2, g3, g4⟩ := ha
  obtain rfl := stp_same g3
  exact hQ a' W' t' g1 e2 e3 e4 e5 g4 g2 (grown_of (P := Tryz.prog) g3 (m93_own L n))
def muI (n : Nat) (a : Act) : Nat := match a.tmps.getD 3 undef with | .int _ z => n - z.toNat | _ => 0
theorem muI_eq {n : Nat} {a : Act} {k : IntKind} {p : Nat} (h : a.tmps.getD 3 undef = .int k (p : Int)) : muI n a = n - p := by unfold muI; rw [h]; simp

def oI0 : Oper := { dst := some 8, op := .move (.tmp 0), type := 105, pos := "shape.go:25", after := #[], guard := none }
def oI1 : Oper := { dst := some 9, op := .move (.tmp 3), type := 3, pos := "shape.go:25", after := #[], guard := none }
def oI2 : Oper := { dst := some 10, op := .call { callee := .value (.tmp 8), args := #[.tmp 9], argTypes := #[3] }, type := 4, pos := "shape.go:25", after := #[{ on := 0, ground := .data }, { on := 1, ground := .data }], guard := none }
def oI3 : Oper := { dst := some 11, op := .unOp .not 4 (.tmp 10), type := 4, pos := "shape.go:25", after := #[{ on := 2, ground := .data }], guard := none }
theorem qI_eq : q93 2 = #[oI0, oI1, oI2, oI3] := by kernel_rfl
theorem starts_step {l : List Ins} {k p : Nat} (hk : l.length ≤ p + k) (hp : p < l.length) : ∃ k' x, k = k' + 1 ∧ l[p]? = some x ∧ startsGo l k p = p :: startsGo l k' (p + plI x) := by
  obtain ⟨k', rfl⟩ : ∃ k', k = k' + 1 := ⟨k - 1, by omega⟩
  obtain ⟨x, hx⟩ : ∃ x, l[p]? = some x := ⟨_, List.getElem?_eq_getElem hp⟩
  exact ⟨k', x, rfl, hx, by simp only [startsGo, hx]⟩
theorem starts_end {l : List Ins} {k p : Nat} (hp : l.length ≤ p) : startsGo l k p = [] := by
  cases k with
  | zero => rfl
  | succ k => simp only [startsGo, List.getElem?_eq_none hp]
/-- Between two turns. -/
def InvI {B0 : Nat} {ι : Ren} {l : List Ins} (lp : Nat) (J : List (Pl l) → World → Prop) (a : Act) (W : World) : Prop :=
  ∃ (pre : List (Pl l)) (p k : Nat) (y : Nat → Value), pre.map Subtype.val ++ startsGo l k p = startsL l ∧ l.length ≤ p + k ∧ p ≤ l.length + 2 ∧ J pre W ∧ Rel B0 1 ι (m93 (codeC l) l.length) W ∧ TRel ι 20 (fullN 20 (up y (knI lp (p : Int)))) a ∧ a.defers = []
theorem iter_stops {B0 : Nat} {ι : Ren} {l : List Ins} {w : World} {nn : Nat} (hr : Rel B0 1 ι (m93 (codeC l) l.length) w) {Lb : Go.DI.Loc} (hb : ι 2 = some Lb) (hS : ShapeOk l) :
    SeqStopsK Fence.wide nn Tryz.prog 102 #[.pointer (some ⟨Lb.block, Lb.base + 0, none⟩)] (encP l) (KpI B0 ι l) (fun xs => xs.map Subtype.val = startsL l) (fun _ => True) (startsL l).length w := by
  intro lp J Jx W hW hJ hJx hY h0
  have hrW := rel_below hr hW
  have hm := hS.most
  refine callsIn_of_wp at93 bd93 trivial ?_ rfl
  have hst : TRel ι 20 (fullN 20 (argX [yV lp, ptrV 2 0])) { tmps := (#[.func (.yield lp) #[] #[]] ++ #[.pointer (some ⟨Lb.block, Lb.base + 0, none⟩)]) ++ Array.replicate (Tryz.f102.ntmps - (#[.func (.yield lp) #[] #[]] ++ #[.pointer (some ⟨Lb.block, Lb.base + 0, none⟩)] : Array Value).size) undef, defers := [] } :=
    start_rel (ι := ι) (args := [yV lp, ptrV 2 0]) (args' := [.func (.yield lp) #[] #[], .pointer (some ⟨Lb.block, Lb.base + 0, none⟩)]) (nt := 20) (.cons (vrel_yield ι lp) (.cons (.ptr 2 0 Lb hb) .nil))
  have e0 : fullN 20 (argX [yV lp, ptrV 2 0]) = fullN 20 (up (argX [yV lp, ptrV 2 0]) [(0, yV lp), (1, ptrV 2 0)]) := by rw [up_self _ _ (by intro q hq; simp only [List.mem_cons, List.not_mem_nil, or_false] at hq; rcases hq with rfl | rfl <;> rfl)]
  rw [e0] at hst
  rw [c93_eq]
  refine wpIn_seq (it_piece (t_it0 _ (codeC l) l.length lp) nil_p hrW hst fun a1 W1 t1 ht1 k0 k1 k3 _ hd1 hr1 hg1 => ?_)
  simp only [Exit.then]
  refine wpIn_block (wpIn_loop (InvI (B0 := B0) (ι := ι) (l := l) lp J) (fun a _ => muI l.length a) ?_ ?_)
  · obtain ⟨y, hy⟩ := ht1.full (knI lp ((0 : Nat) : Int)) (by
      intro q hq
      simp only [knI, List.mem_cons, List.not_mem_nil, or_false] at hq
      rcases hq with rfl | rfl | rfl
      · exact k0
      · exact k1
      · exact k3)
    exact ⟨[], 0, l.length, y, rfl, by omega, by omega, hJ [] W W1 none h0 hg1 (fun r e => by cases e), hr1, hy, hd1⟩
  · rintro a W ⟨pre, p, k, y, hpre, hk, hp2, hJp, hrp, htp, hdp⟩
    have h3 : a.tmps.getD 3 undef = .int .i64 (p : Int) := htp.int (by rw [fullN_at]; rfl)
    refine wpIn_seq (wpIn_seq ?_)
    by_cases hlt : p < l.length
    · obtain ⟨k', x, rfl, hx, hgo⟩ := starts_step hk hlt
      refine it_piece (t_it1 y (codeC l) l.length lp (p : Int) true) (cons_p (by simp [binD, binInt, shiftB]; omega) nil_p) hrp htp fun a1 W1 t1 ht1 k0 k1 k3 k7 hd1 hr1 hg1 => ?_
      simp only [Exit.then]
      have h7 : a1.tmps.getD 7 undef = .bool true := ht1.bool k7
      refine wpIn_cond_true (show a1.eval (.tmp 7) = .bool true from h7) (wpIn_skip ?_)
      simp only [Exit.then]
      have hJ1 : J pre W1 := hJ pre W W1 none hJp hg1 (fun r e => by cases e)
      have hmem : p ∈ startsL l := by rw [← hpre, hgo]; simp
      have hN : pre.length < (startsL l).length := by
        rw [← hpre, hgo]; simp
      obtain ⟨fn, tmps, assign, body, hy, hR⟩ := hY pre ⟨p, hmem⟩ W1 hJ1 hN
      refine wpIn_block (wpIn_seq (wpIn_seq (wpIn_region ?_)))
      have w0 : a1.eval (.tmp 0) = yV lp := ht1.yield k0
      have w3 : a1.eval (.tmp 3) = .int .i64 (p : Int) := ht1.int k3
      rw [qI_eq]
      show wpOpsIn Fence.wide nn Tryz.prog #[oI0, oI1, oI2, oI3] _ [0, 1, 2, 3] a1 W1
      refine ops_valW (o := oI0) rfl rfl (run_move (x := .tmp 0) rfl) ?_
      have ht2 : TRel ι 20 (t1.set 8 (yV lp)) (a1.put oI0.dst (a1.eval (.tmp 0))) := by
        rw [w0]; exact ht1.putD (n := 20) (dst := some 8) rfl (vrel_yield ι lp)
      have w3' : (a1.put oI0.dst (a1.eval (.tmp 0))).eval (.tmp 3) = .int .i64 (p : Int) := ht2.int (by rw [Tmps.at_set]; exact k3)
      refine ops_valW (o := oI1) rfl rfl (run_move (x := .tmp 3) rfl) ?_
      have ht3 : TRel ι 20 ((t1.set 8 (yV lp)).set 9 (.int .i64 (p : Int))) ((a1.put oI0.dst (a1.eval (.tmp 0))).put oI1.dst ((a1.put oI0.dst (a1.eval (.tmp 0))).eval (.tmp 3))) := by
        rw [w3']; exact ht2.putD (n := 20) (dst := some 9) rfl (.int _ _)
      obtain ⟨a3, ha3⟩ : ∃ a3, (a1.put oI0.dst (a1.eval (.tmp 0))).put oI1.dst ((a1.put oI0.dst (a1.eval (.tmp 0))).eval (.tmp 3)) = a3 := ⟨_, rfl⟩
      have hd3 : a3.defers = [] := by rw [← ha3]; exact (put_defers _ _ _).trans ((put_defers _ _ _).trans (hd1.trans hdp))
      rw [ha3] at ht3 ⊢
      have w8 : a3.eval (.tmp 8) = yV lp := ht3.yield (by rw [Tmps.at_set_ne _ (by decide), Tmps.at_set_same]; rfl)
      have w9 : a3.eval (.tmp 9) = .int .i64 (p : Int) := ht3.int (by rw [Tmps.at_set_same])
      have hargs : (#[Operand.tmp 9].map a3.eval) = encP l ⟨p, hmem⟩ := by
        rw [show (#[Operand.tmp 9]).map a3.eval = #[a3.eval (.tmp 9)] from by simp, w9]; rfl
      refine ops_roundW (o := oI2) rfl rfl ((run_yieldOp (f := .tmp 8) (args := #[.tmp 9]) (tys := #[3]) (l := lp) rfl w8).trans (by rw [hargs]; exact hy)) (hR.mono ?_)
      have ht4 : ∀ b, TRel ι 20 ((((t1.set 8 (yV lp)).set 9 (.int .i64 (p : Int))).set 10 (.bool b)).set 11 (.bool (!b))) ((a3.put oI2.dst (.bool b)).put oI3.dst (.bool (!b))) := fun b =>
        (ht3.putD (n := 20) (dst := some 10) rfl (.bool b)).putD (n := 20) (dst := some 11) rfl (.bool (!b))
      have z4 : ∀ (b : Bool) (d : Nat), d ≠ 8 → d ≠ 9 → d ≠ 10 → d ≠ 11 → Tmps.at ((((t1.set 8 (yV lp)).set 9 (.int .i64 (p : Int))).set 10 (.bool b)).set 11 (.bool (!b))) d = t1.at d := fun b d n8 n9 n10 n11 => by
        rw [Tmps.at_set_ne _ n11, Tmps.at_set_ne _ n10, Tmps.at_set_ne _ n9, Tmps.at_set_ne _ n8]
      have w10 : ∀ b, (a3.put oI2.dst (.bool b)).eval (.tmp 10) = .bool b := fun b =>
        TRel.bool (ht3.putD (n := 20) (dst := some 10) rfl (.bool b)) (by show (Tmps.set _ 10 _).at 10 = _; rw [Tmps.at_set_same])
      have w11 : ∀ b, ((a3.put oI2.dst (.bool b)).put oI3.dst (.bool (!b))).eval (.tmp 11) = .bool (!b) := fun b => (ht4 b).bool (by rw [Tmps.at_set_same])
      have hd4 : ∀ b, ((a3.put oI2.dst (.bool b)).put oI3.dst (.bool (!b))).defers = [] := fun b => (put_defers _ _ _).trans ((put_defers _ _ _).trans hd3)
      rintro e W2 (⟨rfl, hJ2, hK2⟩ | ⟨rfl, hx2⟩)
      · refine ⟨_, rfl, ops_valW (o := oI3) rfl rfl (run_not (x := .tmp 10) (ty := 4) (b := true) rfl (w10 true)) ?_⟩
        simp only [wpOpsIn, Exit.then, Exit.inBlock]
        refine wpIn_cond_false (w11 true) (wpIn_skip ?_)
        simp only [Exit.then, Exit.inBlock]
        have hr2 : Rel B0 1 ι (m93 (codeC l) l.length) W2 := hK2 hr1
        obtain ⟨y2, hy2⟩ := (ht4 true).full (knI lp (p : Int)) (by
          intro q hq
          simp only [knI, List.mem_cons, List.not_mem_nil, or_false] at hq
          rcases hq with rfl | rfl | rfl
          · exact (z4 true 0 (by decide) (by decide) (by decide) (by decide)).trans k0
          · exact (z4 true 1 (by decide) (by decide) (by decide) (by decide)).trans k1
          · exact (z4 true 3 (by decide) (by decide) (by decide) (by decide)).trans k3)
        have next : ∀ (j : Nat), 1 ≤ j → j ≤ 2 → plI x = j → ∀ (a5 : Act) (W5 : World) (t5 : Tmps), TRel ι 20 t5 a5 → t5.at 0 = yV lp → t5.at 1 = ptrV 2 0 → t5.at 3 = .int .i64 ((p + j : Nat) : Int) → a5.defers = [] → Rel B0 1 ι (m93 (codeC l) l.length) W5 → W2.grownBy W5 none →
            InvI (B0 := B0) (ι := ι) (l := l) lp J a5 W5 ∧ muI l.length a5 < muI l.length a := by
          intro j hj1 hj2 hpl a5 W5 t5 ht5 z0 z1 z3 hd5 hr5 hg5
          obtain ⟨y5, hy5⟩ := ht5.full (knI lp ((p + j : Nat) : Int)) (by
            intro q hq
            simp only [knI, List.mem_cons, List.not_mem_nil, or_false] at hq
            rcases hq with rfl | rfl | rfl
            · exact z0
            · exact z1
            · exact z3)
          refine ⟨⟨pre ++ [⟨p, hmem⟩], p + j, k', y5, ?_, by omega, by omega, hJ _ W2 W5 none hJ2 hg5 (fun r e => by cases e), hr5, hy5, hd5⟩, ?_⟩
          · refine Eq.trans ?_ hpre
            rw [hgo, List.map_append, List.append_assoc, ← hpl]; rfl
          · rw [muI_eq (ht5.int z3), muI_eq h3]; omega
        have hM : (m93 (codeC l) l.length).top := top_mS _
        have hM0 : (m93 (codeC l) l.length).get 0 = .cells false gl := by kernel_rfl
        rcases plI_run hS hmem hx with ⟨hpl, hrun⟩ | ⟨hpl, hrun⟩
        · refine it_piece (t_it3a y2 (codeC l) (insC x) l.length lp (p : Int)) (cons_p (ixP_of hx) (cons_p (ldP_of hx) (cons_p (oSh_pl hM hM0 (by show 1 ≤ 3; decide) hrun) nil_p))) hr2 hy2 fun a5 W5 t5 ht5 z0 z1 z3 _ hd5 hr5 hg5 => ?_
          exact next 1 (by decide) (by decide) hpl a5 W5 t5 ht5 z0 z1 (by rw [z3, up_nat (by omega)]) (hd5.trans (hd4 true)) hr5 hg5
        · refine it_piece (t_it3b y2 (codeC l) (insC x) l.length lp (p : Int)) (cons_p (ixP_of hx) (cons_p (ldP_of hx) (cons_p (oSh_pl hM hM0 (by show 1 ≤ 3; decide) hrun) nil_p))) hr2 hy2 fun a5 W5 t5 ht5 z0 z1 z3 _ hd5 hr5 hg5 => ?_
          refine next 2 (by decide) (by decide) hpl a5 W5 t5 ht5 z0 z1 ?_ (hd5.trans (hd4 true)) hr5 hg5
          rw [z3, show Int.add (p : Int) 2 = ((p + 2 : Nat) : Int) from rfl, wrap_i64 ⟨by omega, by omega⟩]
      · refine ⟨_, rfl, ops_valW (o := oI3) rfl rfl (run_not (x := .tmp 10) (ty := 4) (b := false) rfl (w10 false)) ?_⟩
        simp only [wpOpsIn, Exit.then, Exit.inBlock]
        refine wpIn_cond_true (w11 false) (wpIn_ret ?_)
        simp only [Exit.then, Exit.inBlock]
        exact ⟨hd4 false, _, results_none rfl _ _ _, ⟨_, rfl⟩, .inr ⟨_, trivial, hx2⟩⟩
    · refine it_piece (t_it1 y (codeC l) l.length lp (p : Int) false) (cons_p (by simp [binD, binInt, shiftB]; omega) nil_p) hrp htp fun a1 W1 t1 ht1 k0 k1 k3 k7 hd1 hr1 hg1 => ?_
      simp only [Exit.then]
      have h7 : a1.tmps.getD 7 undef = .bool false := ht1.bool k7
      refine wpIn_cond_false (show a1.eval (.tmp 7) = .bool false from h7) (wpIn_exit ?_)
      simp only [Exit.then, Exit.inBlock]
      have hJ1 : J pre W1 := hJ pre W W1 none hJp hg1 (fun r e => by cases e)
      rw [starts_end (by omega), List.append_nil] at hpre
      exact ⟨hd1.trans hdp, _, results_none rfl _ _ _, ⟨_, rfl⟩, .inl ⟨pre, hpre, hJ1⟩⟩
end
end Go.Proofs.YtipdeijgaabobaaGreatDoor
/-
  VStarts: shape.Starts: its pieces.
-/
namespace Go.Proofs.YtipdeijgaabobaaGreatDoor
open Go Go.DI Go.DI.Kit Go.Proofs Go.Cmp Go.RowKit
noncomputable section
/-! ### what the iterator sees -/
def rho93 (bx i : Nat) : Nat := if i = 2 then bx else i
def i93 (ι : Ren) (bx : Nat) : Ren := ι.sub (rho93 bx) fun i => Nat.blt i 3
theorem i93_at (ι : Ren) (bx b : Nat) (h : b < 3) : i93 ι bx b = ι (rho93 bx b) := by
  show (if Nat.blt b 3 = true then _ else none) = _
  rw [if_pos (by simp [Nat.blt_eq]; omega)]
theorem weakB {B0 : Nat} {ι : Ren} {own : Bool} {c : List Value} {L : Go.DI.Loc} {W : World} (h : BlkRel B0 ι (.cells own c) L W) : BlkRel B0 ι (.cells false c) L W := by
  obtain ⟨rc, e, fr, h1, h2, h3, h4, h5⟩ := h
  exact ⟨rc, e, fr, h1, h2, h3, h4, fun h => by cases h⟩
theorem rel93 {B0 : Nat} {w0 W : World} {ι : Ren} {m : Mem} {bx : Nat} {o1 o2 : Bool} {l : List Ins} (hs : Go.DI.St B0 w0 ι m W) (hz : 1 < m.size) (hbx : bx < m.size) (hb2 : 2 ≤ bx) (g0 : m.get 0 = .cells false gl) (g1 : m.get 1 = .cells o1 (codeC l)) (gx : m.get bx = .cells o2 [sliceN 1 l.length]) :
    Rel B0 1 (i93 ι bx) (m93 (codeC l) l.length) W := by
  have key : ∀ b, b < 3 → rho93 bx b < m.size ∧ (m.get (rho93 bx b)).live := fun b hb => by
    have : b = 0 ∨ b = 1 ∨ b = 2 := by omega
    rcases this with rfl | rfl | rfl
    · refine ⟨by show 0 < _; omega, ?_⟩
      show (m.get 0).live
      rw [g0]; trivial
    · refine ⟨hz, ?_⟩
      show (m.get 1).live
      rw [g1]; trivial
    · refine ⟨hbx, ?_⟩
      show (m.get bx).live
      rw [gx]; trivial
  refine ⟨fun b L hb hL => ?_, fun b₁ b₂ L₁ L₂ b1 b2 e1 e2 l1 l2 g0' e => ?_, hs.rel.floor, fun g hg => ?_, top_mS _⟩
  · have hb : b < 3 := hb
    rw [i93_at ι bx b hb] at hL
    have hr := hs.rel.blk _ L (key b hb).1 hL
    have : b = 0 ∨ b = 1 ∨ b = 2 := by omega
    rcases this with rfl | rfl | rfl
    · have hr : BlkRel B0 ι (m.get 0) L W := hr
      rw [g0] at hr
      rw [show (m93 (codeC l) l.length).get 0 = .cells false gl by kernel_rfl]
      exact (bsim_free (ρ := rho93 bx) (k := fun i => Nat.blt i 3) free_gl).rel B0 ι L W hr
    · have hr : BlkRel B0 ι (m.get 1) L W := hr
      rw [g1] at hr
      have h2 := bsim_ren (ρ := rho93 bx) (nb := 3) (b := .cells false (codeC l)) (fun v hv => plain_ok (List.all_eq_true.1 (codeC_plain l) v hv)) (fun v hv => plain_seen (List.all_eq_true.1 (codeC_plain l) v hv))
      rw [show (m93 (codeC l) l.length).get 1 = .cells false (codeC l) by kernel_rfl]
      refine h2.rel B0 ι L W ?_
      show BlkRel B0 ι (.cells false ((codeC l).map _)) L W
      rw [ren_plains (codeC_plain l)]
      exact weakB hr
    · have hr : BlkRel B0 ι (m.get bx) L W := hr
      rw [gx] at hr
      have h2 := bsim_ren (ρ := rho93 bx) (nb := 3) (b := .cells false [sliceN 1 l.length]) (fun v hv => by obtain rfl := List.mem_singleton.1 hv; rfl) (fun v hv => by obtain rfl := List.mem_singleton.1 hv; rfl)
      rw [show (m93 (codeC l) l.length).get 2 = .cells false [sliceN 1 l.length] by kernel_rfl]
      refine h2.rel B0 ι L W ?_
      exact weakB hr
  · have b1 : b₁ < 3 := b1
    have b2 : b₂ < 3 := b2
    rw [i93_at ι bx _ b1] at e1
    rw [i93_at ι bx _ b2] at e2
    have := hs.rel.inj _ _ _ _ (key b₁ b1).1 (key b₂ b2).1 e1 e2 (key b₁ b1).2 (key b₂ b2).2 g0' e
    unfold rho93 at this
    split at this <;> split at this <;> omega
  · obtain rfl : g = 0 := by omega
    obtain ⟨L, p1, p2⟩ := hs.rel.glob 0 (by decide)
    exact ⟨L, by rw [i93_at ι bx 0 (by decide)]; exact p1, p2⟩
theorem kpI_t {B0 : Nat} {ι : Ren} {l : List Ins} {A B C : World} (h : KpI B0 ι l A B) (k : KpI B0 ι l B C) : KpI B0 ι l A C := fun g => k (h g)
theorem m93_cells (l : List Ins) : ∀ b, ((m93 (codeC l) l.length).get b).live → ∃ o c, (m93 (codeC l) l.length).get b = .cells o c := by
  intro b hb
  have e : (m93 (codeC l) l.length).get b = if b < 1 then (mG gl).get b else (match [Blk.cells false (codeC l), Blk.cells false [sliceN 1 l.length]][b - 1]? with | some x => x | none => (mG gl).get b) := foldl_push_get _ (mG gl) b
  rw [e] at hb ⊢
  by_cases h : b < 1
  · obtain rfl : b = 0 := by omega
    rw [if_pos h, mG_get]; exact ⟨_, _, rfl⟩
  · rw [if_neg h] at hb ⊢
    rcases hj : b - 1 with _ | _ | j
    · exact ⟨_, _, rfl⟩
    · exact ⟨_, _, rfl⟩
    · rw [hj] at hb
      have hb : ((mG gl).get b).live := hb
      rw [mG_top gl b (by rw [mG_size]; omega)] at hb
      exact hb.elim
theorem kpI_b {B0 : Nat} {ι : Ren} {l : List Ins} (W : World) (k : Nat) (o o' : Obj) (hk : W.heap[k]? = some o) (hno : o.isCells = false) : KpI B0 ι l W (W.putObj k o') := fun hr => by
  have hg := grownBy_putObj' W k o'
  refine ⟨fun b L hb hL => ?_, hr.inj, Nat.le_trans hr.floor hg.size, hr.glob, hr.top⟩
  have hb0 := hr.blk b L hb hL
  refine hb0.monoL (fun _ _ h => h) fun hl => ?_
  obtain ⟨o1, c, hgb⟩ := m93_cells l b hl
  refine hg.block _ (hb0.lt hl) fun e => ?_
  have e : L.block = k := Option.some.inj e
  rw [hgb] at hb0
  obtain ⟨rc, e1, fr, h1, _⟩ := hb0
  rw [e, hk] at h1
  cases h1
  cases hno
theorem clos_at {ι : Ren} {n : Nat} {t : Tmps} {a : Act} (ht : TRel ι n t a) {d bx : Nat} (hd : t.at d = .func (.func 102) #[] #[ptrV bx 0]) : ∃ Lb, ι bx = some Lb ∧ a.tmps.getD d undef = .func (.func 102) #[] #[.pointer (some ⟨Lb.block, Lb.base + 0, none⟩)] := by
  have := ht.2 d
  rw [hd] at this
  generalize a.tmps.getD d undef = u at this ⊢
  cases this with
  | func fn x x' y y' hx hy h1 h2 =>
    have e1 : x' = #[] := Array.eq_empty_of_size_eq_zero hx.symm
    obtain ⟨v, hv⟩ : ∃ v, y' = #[v] := by
      have : y'.size = 1 := hy.symm
      refine ⟨y'[0], Array.ext (by simp [this]) fun i hi hj => ?_⟩
      obtain rfl : i = 0 := by omega
      rfl
    subst e1 hv
    have := h2 0 (ptrV bx 0) v rfl rfl
    cases this with
    | ptr _ _ L hL => exact ⟨L, hL, rfl⟩
/-! ### Starts -/
noncomputable def c69 : Code := bodyOf Tryz.f29
theorem at69 : Tryz.prog.funcs[29]? = some Tryz.f29 := by kernel_rfl
theorem bd69 : Tryz.f29.body = some c69 := by kernel_rfl
noncomputable def q69 (i : Nat) : Array Oper := regA c69 i
theorem c69_eq : c69 = .seq (.region 0 (q69 0) false) (.seq (.region 1 (q69 1) false) (.seq (.seq (.region 2 (q69 2) false) (.block 0 (.rangeFunc (.tmp 9) #[10] (.region 3 (q69 3) false) (.block 1 (.region 4 (q69 4) false))))) (.seq (.region 5 (q69 5) false) .ret))) := by kernel_rfl
noncomputable def hS (z y : List Value) : H.Hint where
  ix t := Nat.beq t 81
  ld _ _ _ := none
  cmp _ _ := none
  ap _ := none
  call f := cond (Nat.beq f 32 || (Nat.beq f 31 || Nat.beq f 67)) (some undef) none
  spec _ _ _ _ := False
  blk := 0
  mks t := cond (Nat.beq t 81) (some (.cells true z)) none
  st t b := cond (Nat.beq t 4 && Nat.beq b 2) (some (.cells true y)) none
theorem hS_on {z y : List Value} (f : FuncId) (v : Value) (args : List Value) (m : Mem) (hc : (hS z y).call f = some v) (hs : (hS z y).says f args m v) : oSh f args m = some (v, (hS z y).eff f m) := hs.elim
theorem hS_off {z y : List Value} (f : FuncId) (hc : (hS z y).call f = none) (a : List Value) (m : Mem) : oSh f a m = none :=
  oSh_off (by rintro rfl; cases hc) (by rintro rfl; cases hc) (by rintro rfl; cases hc) a m
noncomputable def slBo (n : Nat) : Value := .slice (some ⟨2, 0, none⟩) n n
noncomputable def mT0 (o1 : Bool) (L : List Value) : Mem := mS gl [.cells o1 L]
noncomputable def mT1 (o1 : Bool) (L z : List Value) (n : Nat) : Mem := mS gl [.cells o1 L, .cells true z, .cells true [slBo n]]
noncomputable def mT2 (o1 : Bool) (L z : List Value) (n : Nat) : Mem := mS gl [.cells o1 L, .cells true z, .cells true [slBo n], .cells true [sliceN 1 n]]
noncomputable def cl93 (bx : Nat) : Value := .func (.func 102) #[] #[ptrV bx 0]
noncomputable def qMk (z : List Value) (n : Nat) : Prop := H.mkOk Tryz.prog 1 81 (.int .i64 (Int.ofNat n)) (.int .i64 (Int.ofNat n)) (.cells true z) n n
noncomputable def qSt (z y : List Value) (p : Int) : Prop := H.stOk Tryz.prog (.cells true z) 4 (Nat.add 0 (Nat.mul p.toNat 1)) (.bool true) (.cells true y)
theorem t_st0 (x : Nat → Value) (o1 : Bool) (L : List Value) (n : Nat) : ansX (pcR (hS [] []) Tryz.prog kp (.region 0 (q69 0) false) 15 [0] (fullN 15 (up x [(0, sliceN 1 n)])) (mT0 o1 L)) = some ((.normal, [sliceN 1 n], mT0 o1 L), []) ∧ evenX (pcR (hS [] []) Tryz.prog kp (.region 0 (q69 0) false) 15 [0] (fullN 15 (up x [(0, sliceN 1 n)])) (mT0 o1 L)) := ⟨by kernel_rfl, by unfold evenX; kernel_rfl⟩
theorem t_st1 (x : Nat → Value) (o1 : Bool) (L z : List Value) (n : Nat) : ansX (pcR (hS z []) Tryz.prog kp (.region 1 (q69 1) false) 15 [0, 3] (fullN 15 (up x [(0, sliceN 1 n)])) (mT0 o1 L)) = some ((.normal, [sliceN 1 n, ptrV 3 0], mT1 o1 L z n), [qMk z n]) ∧ evenX (pcR (hS z []) Tryz.prog kp (.region 1 (q69 1) false) 15 [0, 3] (fullN 15 (up x [(0, sliceN 1 n)])) (mT0 o1 L)) := ⟨by kernel_rfl, by unfold evenX; kernel_rfl⟩
theorem t_st2 (x : Nat → Value) (o1 : Bool) (L z : List Value) (n : Nat) : ansX (pcR (hS [] []) Tryz.prog kp (.region 2 (q69 2) false) 15 [3, 9] (fullN 15 (up x [(0, sliceN 1 n), (3, ptrV 3 0)])) (mT1 o1 L z n)) = some ((.normal, [ptrV 3 0, cl93 4], mT2 o1 L z n), []) ∧ evenX (pcR (hS [] []) Tryz.prog kp (.region 2 (q69 2) false) 15 [3, 9] (fullN 15 (up x [(0, sliceN 1 n), (3, ptrV 3 0)])) (mT1 o1 L z n)) := ⟨by kernel_rfl, by unfold evenX; kernel_rfl⟩
theorem t_st4 (x : Nat → Value) (o1 : Bool) (L z y : List Value) (n : Nat) (p : Int) : ansX (pcR (hS [] y) Tryz.prog kp (.block 1 (.region 4 (q69 4) false)) 15 [] (fullN 15 (up x [(3, ptrV 3 0), (4, .int .i64 p)])) (mT2 o1 L z n)) = some ((.normal, [], mT2 o1 L y n), [ixP p n, qSt z y p]) ∧ evenX (pcR (hS [] y) Tryz.prog kp (.block 1 (.region 4 (q69 4) false)) 15 [] (fullN 15 (up x [(3, ptrV 3 0), (4, .int .i64 p)])) (mT2 o1 L z n)) := ⟨by kernel_rfl, by unfold evenX; kernel_rfl⟩
theorem t_st5 (x : Nat → Value) (o1 : Bool) (L z : List Value) (n : Nat) : ansX (pcR (hS [] []) Tryz.prog kp (.region 5 (q69 5) false) 15 [2] (fullN 15 (up x [(3, ptrV 3 0)])) (mT2 o1 L z n)) = some ((.normal, [slBo n], mT2 o1 L z n), []) ∧ evenX (pcR (hS [] []) Tryz.prog kp (.region 5 (q69 5) false) 15 [2] (fullN 15 (up x [(3, ptrV 3 0)])) (mT2 o1 L z n)) := ⟨by kernel_rfl, by unfold evenX; kernel_rfl⟩
end
end Go.Proofs.YtipdeijgaabobaaGreatDoor
/-
  VStarts2: shape.Starts: a slice that tells where instructions begin.
-/
namespace Go.Proofs.YtipdeijgaabobaaGreatDoor
open Go Go.DI Go.DI.Kit Go.Proofs Go.Cmp Go.RowKit
noncomputable section
def boolsAt (s : List Nat) (n : Nat) : List Value := (List.range n).map fun i => Value.bool (decide (i ∈ s))
theorem boolsAt_len (s : List Nat) (n : Nat) : (boolsAt s n).length = n := by simp [boolsAt]
theorem boolsAt_get (s : List Nat) (n i : Nat) : (boolsAt s n)[i]? = if i < n then some (.bool (decide (i ∈ s))) else none := by
  unfold boolsAt
  rw [List.getElem?_map]
  by_cases h : i < n
  · rw [List.getElem?_range h, if_pos h]; rfl
  · rw [List.getElem?_eq_none (by simp; omega), if_neg h]; rfl
theorem repl_one (v : Value) : ∀ n, repl [v] n = List.replicate n v
  | 0 => rfl
  | n + 1 => by
    show v :: repl [v] n = _
    rw [repl_one v n]; rfl
theorem und143 : Tryz.prog.underlying 81 = some (.slice 4) := by kernel_rfl
theorem byt4 : bytesOf Tryz.prog 4 = some 1 := by kernel_rfl
theorem zer4 (n : Nat) : zerosD Tryz.prog 4 n = some (repl [.bool false] n) := by kernel_rfl
theorem qMk_of {n : Nat} (h : n ≤ 512) : qMk (boolsAt [] n) n := fun t lx cx h1 h2 => by
  have hb : boolsAt [] n = repl [.bool false] n := by
    rw [repl_one]
    apply List.ext_getElem?
    intro i
    rw [boolsAt_get, List.getElem?_replicate]
    simp
  unfold allocD
  simp only [und143, h1, h2, byt4, Int.ofNat_eq_natCast]
  rw [if_pos ⟨by omega, by omega, by omega, by omega⟩, Int.toNat_natCast, zer4, hb]
theorem qSt_of {s : List Nat} {n p : Nat} (h : p < n) : qSt (boolsAt s n) (boolsAt (s ++ [p]) n) (p : Int) := fun m b hm => by
  have hsz : szOf Tryz.prog 4 = some 1 := by kernel_rfl
  have hoff : Nat.add 0 (Nat.mul (p : Int).toNat 1) = p := by
    show 0 + (p : Int).toNat * 1 = p
    simp
  rw [hoff]
  have hc : (Value.bool true).cells.toList = [.bool true] := rfl
  unfold storeD
  simp only [hsz, hc]
  rw [if_pos (by rfl)]
  unfold storeC
  rw [hm]
  simp only
  rw [if_pos (by rw [boolsAt_len]; simp; omega), if_pos (show [Value.bool true].all one = true from rfl)]
  have : splice (boolsAt s n) p [.bool true] = boolsAt (s ++ [p]) n := by
    apply List.ext_getElem?
    intro i
    rw [splice_get _ _ _ _ (by rw [boolsAt_len]; simp; omega), boolsAt_get, boolsAt_get]
    by_cases hi : i = p
    · subst hi
      rw [if_pos (by simp), if_pos h]
      simp
    · rw [if_neg (by simp; omega)]
      simp [hi]
  rw [this]
theorem mS_get (ss : List Blk) (j : Nat) : (mS gl ss).get j = if j < 1 then (mG gl).get j else (match ss[j - 1]? with | some x => x | none => (mG gl).get j) := foldl_push_get ss (mG gl) j
/-- Small memories hold cells alone. -/
theorem mS_cells {ss : List Blk} (h : ∀ s ∈ ss, ∃ o c, s = .cells o c) (b : Nat) (hb : ((mS gl ss).get b).live) : ∃ o c, (mS gl ss).get b = .cells o c := by
  rw [mS_get] at hb ⊢
  by_cases h0 : b < 1
  · obtain rfl : b = 0 := by omega
    rw [if_pos h0, mG_get]; exact ⟨_, _, rfl⟩
  · rw [if_neg h0] at hb ⊢
    cases hj : ss[b - 1]? with
    | some x => exact h x (List.mem_of_getElem? hj)
    | none =>
      rw [hj] at hb
      have hb : ((mG gl).get b).live := hb
      rw [mG_top gl b (by rw [mG_size]; omega)] at hb
      exact hb.elim
theorem mS_only {ss : List Blk} (h : ∀ s ∈ ss, ∃ o c, s = .cells o c) : onlyCells (mS gl ss) := fun b hb => mS_cells h b (own_live hb)
theorem mS_size (ss : List Blk) : (mS gl ss).size = 1 + ss.length := by unfold mS; rw [foldl_push_size, mG_size]
/-- The names cut down to a memory's size. -/
theorem rel_cut {B0 : Nat} {ι : Ren} {ss : List Blk} {W : World} (hr : Rel B0 1 ι (mS gl ss) W) (hok : ∀ s ∈ ss, okB s ∧ seenB (1 + ss.length) s) : Rel B0 1 (ι.sub id fun i => Nat.blt i (1 + ss.length)) (mS gl ss) W := by
  have hin : ∀ b L, (ι.sub id fun i => Nat.blt i (1 + ss.length)) b = some L → b < 1 + ss.length ∧ ι b = some L := fun b L h => by
    obtain ⟨g1, g2⟩ := sub_id _ _ _ _ h
    exact ⟨by simpa [Nat.blt_eq] using g1, g2⟩
  refine ⟨fun b L hb hL => ?_, fun b₁ b₂ L₁ L₂ b1 b2 e1 e2 l1 l2 g0 e => hr.inj _ _ _ _ b1 b2 (hin _ _ e1).2 (hin _ _ e2).2 l1 l2 g0 e, hr.floor, fun g hg => ?_, hr.top⟩
  · obtain ⟨g1, g2⟩ := hin b L hL
    have hb0 := hr.blk b L hb g2
    by_cases h0 : b = 0
    · subst h0
      have e0 : (mS gl ss).get 0 = .cells false gl := by rw [mS_get, if_pos (by decide), mG_get]
      rw [e0] at hb0 ⊢
      exact (bsim_free (ρ := id) (k := fun i => Nat.blt i (1 + ss.length)) free_gl).rel B0 ι L W hb0
    · have hj : b - 1 < ss.length := by omega
      have eb : (mS gl ss).get b = ss[b - 1] := by rw [mS_get, if_neg (by omega), List.getElem?_eq_getElem hj]
      rw [eb] at hb0 ⊢
      obtain ⟨k1, k2⟩ := hok _ (List.getElem_mem hj)
      have := bsim_ren (ρ := id) k1 k2
      rw [renB_id k1] at this
      exact this.rel B0 ι L W hb0
  · obtain ⟨L, p1, p2⟩ := hr.glob g hg
    obtain rfl : g = 0 := by omega
    refine ⟨L, ?_, p2⟩
    show (if Nat.blt 0 (1 + ss.length) = true then ι 0 else none) = some L
    rw [if_pos (by simp [Nat.blt_eq]; omega)]
    exact p1
theorem rel_weak {B0 : Nat} {ι : Ren} {own : Bool} {L : List Value} {W : World} (hr : Rel B0 1 ι (mS gl [.cells own L]) W) : Rel B0 1 ι (mS gl [.cells false L]) W := by
  have hlive : ∀ b, ((mS gl [.cells false L]).get b).live → ((mS gl [.cells own L]).get b).live := fun b hb => by
    rw [mS_get] at hb ⊢
    split
    · rename_i h; rw [if_pos h] at hb; exact hb
    · rename_i h
      rw [if_neg h] at hb
      rcases hj : b - 1 with _ | j
      · rw [hj] at hb; trivial
      · rw [hj] at hb; exact hb
  refine ⟨fun b L' hb hL => ?_, fun b₁ b₂ L₁ L₂ b1 b2 e1 e2 l1 l2 g0 e => hr.inj _ _ _ _ b1 b2 e1 e2 (hlive _ l1) (hlive _ l2) g0 e, hr.floor, hr.glob, top_mS _⟩
  have h := hr.blk b L' hb hL
  have hb : b < 2 := hb
  have : b = 0 ∨ b = 1 := by omega
  rcases this with rfl | rfl
  · have e0 : ∀ o, (mS gl [.cells o L]).get 0 = .cells false gl := fun o => by rw [mS_get, if_pos (by decide), mG_get]
    rw [e0] at h ⊢; exact h
  · have e1 : ∀ o, (mS gl [.cells o L]).get 1 = .cells o L := fun o => by rw [mS_get]; rfl
    rw [e1] at h ⊢; exact weakB h

theorem starts_lt {l : List Ins} {p : Nat} (h : p ∈ startsL l) : p < l.length := by
  have key : ∀ (k q : Nat), p ∈ startsGo l k q → p < l.length := by
    intro k
    induction k with
    | zero => intro q h; simp [startsGo] at h
    | succ k ih =>
      intro q h
      simp only [startsGo] at h
      cases hx : l[q]? with
      | none => rw [hx] at h; simp at h
      | some x =>
        rw [hx] at h
        simp only [List.mem_cons] at h
        rcases h with rfl | h
        · exact (List.getElem?_eq_some_iff.1 hx).1
        · exact ih _ h
  exact key _ _ h
def aS : Oper := { dst := some 4, op := .assign (.tmp 10), type := 3, pos := "shape.go:36", after := #[], guard := none }
theorem three {o1 o2 o3 : Bool} {a b c : List Value} : ∀ s ∈ [Blk.cells o1 a, .cells o2 b, .cells o3 c], ∃ o c, s = .cells o c := by
  intro s hs
  simp only [List.mem_cons, List.not_mem_nil, or_false] at hs
  rcases hs with rfl | rfl | rfl <;> exact ⟨_, _, rfl⟩
theorem four {o1 o2 o3 o4 : Bool} {a b c d : List Value} : ∀ s ∈ [Blk.cells o1 a, .cells o2 b, .cells o3 c, .cells o4 d], ∃ o c, s = .cells o c := by
  intro s hs
  simp only [List.mem_cons, List.not_mem_nil, or_false] at hs
  rcases hs with rfl | rfl | rfl | rfl <;> exact ⟨_, _, rfl⟩
theorem one1 {o1 : Bool} {a : List Value} : ∀ s ∈ [Blk.cells o1 a], ∃ o c, s = .cells o c := by
  intro s hs
  obtain rfl := List.mem_singleton.1 hs
  exact ⟨_, _, rfl⟩
theorem bools_ok (s : List Nat) (n nb : Nat) : okB (.cells true (boolsAt s n)) ∧ seenB nb (.cells true (boolsAt s n)) := by
  constructor <;>
  · intro v hv
    obtain ⟨i, _, rfl⟩ := List.mem_map.1 hv
    rfl
/-- shape.Starts. -/
theorem starts_ok {B0 : Nat} {own : Bool} {l : List Ins} (hS : ShapeOk l) : CallOK Tryz.prog B0 1 29 [sliceN 1 l.length] (mS gl [.cells own (codeC l)]) (slBo l.length) (mS gl [.cells own (codeC l), .cells true (boolsAt (startsL l) l.length)]) := by
  intro ι w args' hr hf hargs
  have hm := hS.most
  have hcp : ∀ o : Bool, okB (.cells o (codeC l)) ∧ ∀ nb, seenB nb (.cells o (codeC l)) := fun o => ⟨fun v hv => plain_ok (List.all_eq_true.1 (codeC_plain l) v hv), fun nb v hv => plain_seen (List.all_eq_true.1 (codeC_plain l) v hv)⟩
  -- the small memory, nobody's own
  obtain ⟨ι0, hι0⟩ : ∃ ι0, (ι.sub id fun i => Nat.blt i (1 + [Blk.cells false (codeC l)].length)) = ι0 := ⟨_, rfl⟩
  have hat : ∀ b, b < 2 → ι0 b = ι b := fun b hb => by
    rw [← hι0]
    show (if Nat.blt b 2 = true then ι b else none) = ι b
    rw [if_pos (by simp [Nat.blt_eq]; omega)]
  have hno : ∀ b, 2 ≤ b → ι0 b = none := fun b hb => by
    rw [← hι0]
    show (if Nat.blt b 2 = true then ι b else none) = none
    rw [if_neg (by simp [Nat.blt_eq]; omega)]
  have hr0 : Rel B0 1 ι0 (mT0 false (codeC l)) w := by
    rw [← hι0]
    exact rel_cut (rel_weak hr) (fun s hs => by obtain rfl := List.mem_singleton.1 hs; exact ⟨(hcp false).1, (hcp false).2 _⟩)
  have hs0 : Go.DI.St B0 w ι0 (mT0 false (codeC l)) w := ⟨hr0, fun b hb => hno b hb, Below.refl _ _, fun b L hL ho => by
    exfalso
    unfold mT0 at ho
    rw [mS_get] at ho
    split at ho
    · rename_i h0
      obtain rfl : b = 0 := by omega
      rw [mG_get] at ho; cases ho
    · rcases hj : b - 1 with _ | j
      · rw [hj] at ho; cases ho
      · rw [hj] at ho
        have ho : ((mG gl).get b).own = true := ho
        rw [mG_top gl b (by rw [mG_size]; omega)] at ho; cases ho⟩
  have hargs0 : VRels ι0 [sliceN 1 l.length] args' := by
    cases hargs with
    | cons h t =>
      cases t
      refine .cons ?_ .nil
      have := sim_ren (ρ := id) (nb := 2) (v := sliceN 1 l.length) rfl rfl
      rw [renV_id (by rfl)] at this
      rw [← hι0]
      exact this ι _ h
  have hst := start_rel (nt := 15) hargs0
  have e0 : fullN 15 (argX [sliceN 1 l.length]) = fullN 15 (up (argX [sliceN 1 l.length]) [(0, sliceN 1 l.length)]) := by rw [up_self _ _ (by intro q hq; obtain rfl := List.mem_singleton.1 hq; rfl)]
  have hst : TRel ι0 15 (fullN 15 (up (argX [sliceN 1 l.length]) [(0, sliceN 1 l.length)])) { tmps := args'.toArray ++ Array.replicate (Tryz.f29.ntmps - args'.toArray.size) undef, defers := [] } := by
    rw [← e0]; exact hst
  refine (callsIn_wide (n := 1)).1 (callsIn_of_wp_marks at69 bd69 trivial ?_ rfl)
  rw [c69_eq]
  refine wpIn_seq (st_piece hmix hK hng (oSh_ok B0) oSh_grw hS_on hS_off (t_st0 _ false (codeC l) l.length).1 (t_st0 _ false (codeC l) l.length).2 nil_p hs0 (mS_only one1) hst fun ι1 a1 W1 t1 hs1 ht1 hv1 hd1 hk1 hkp1 => ?_)
  simp only [Ex.to, Exit.then]
  obtain ⟨x1, hx1⟩ := ht1.full _ (at_of hv1)
  refine wpIn_seq (st_piece hmix hK hng (oSh_ok B0) oSh_grw hS_on hS_off (t_st1 x1 false (codeC l) (boolsAt [] l.length) l.length).1 (t_st1 x1 false (codeC l) (boolsAt [] l.length) l.length).2 (cons_p (qMk_of hm) nil_p) hs1 (mS_only one1) hx1 fun ι2 a2 W2 t2 hs2 ht2 hv2 hd2 hk2 hkp2 => ?_)
  simp only [Ex.to, Exit.then]
  obtain ⟨x2, hx2⟩ := ht2.full _ (at_of hv2)
  refine wpIn_seq (wpIn_seq (st_piece hmix hK hng (oSh_ok B0) oSh_grw hS_on hS_off (t_st2 x2 false (codeC l) (boolsAt [] l.length) l.length).1 (t_st2 x2 false (codeC l) (boolsAt [] l.length) l.length).2 nil_p hs2 (mS_only three) hx2 fun ι3 a3 W3 t3 hs3 ht3 hv3 hd3 hk3 hkp3 => ?_))
  simp only [Ex.to, Exit.then]
  have hat3 := at_of hv3
  have h93 : t3.at 9 = cl93 4 := hat3 (9, cl93 4) (by simp)
  have h33 : t3.at 3 = ptrV 3 0 := hat3 (3, ptrV 3 0) (by simp)
  obtain ⟨Lb, hLb, hfun⟩ := clos_at ht3 h93
  have hz3 : (mT2 false (codeC l) (boolsAt [] l.length) l.length).size = 5 := by kernel_rfl
  have hG : ∀ s, (mT2 false (codeC l) (boolsAt s l.length) l.length).get 0 = .cells false gl ∧ (mT2 false (codeC l) (boolsAt s l.length) l.length).get 1 = .cells false (codeC l) ∧ (mT2 false (codeC l) (boolsAt s l.length) l.length).get 4 = .cells true [sliceN 1 l.length] ∧ (mT2 false (codeC l) (boolsAt s l.length) l.length).size = 5 := fun s => ⟨by kernel_rfl, by kernel_rfl, by kernel_rfl, by kernel_rfl⟩
  have hrel93 : ∀ (s : List Nat) (W : World), Go.DI.St B0 w ι3 (mT2 false (codeC l) (boolsAt s l.length) l.length) W → Rel B0 1 (i93 ι3 4) (m93 (codeC l) l.length) W := fun s W h => by
    obtain ⟨g0, g1, g4, gz⟩ := hG s
    exact rel93 h (by rw [gz]; decide) (by rw [gz]; decide) (by decide) g0 g1 g4
  have hi2 : i93 ι3 4 2 = some Lb := by rw [i93_at ι3 4 2 (by decide)]; exact hLb
  refine wpIn_block (range_di (m0 := mT2 false (codeC l) (boolsAt [] l.length) l.length) (ι := ι3) hs3 (Ds := []) (fun D hD => by simp at hD) (by decide) hfun (enters_of at93 (by kernel_rfl) bd93) (iter_stops (hrel93 [] W3 hs3) hi2 hS) (fun h k => kpI_t h k) (fun W k o o' _ hk hno' _ => kpI_b W k o o' hk hno') (fun x => rfl)
    (fun pre => mT2 false (codeC l) (boolsAt (pre.map Subtype.val) l.length) l.length) rfl (fun pre b hb => mS_cells four b hb)
    (fun x => ({ tmps := a3.tmps.setIfInBounds 10 (.int .i64 (x.1 : Int)), defers := [] } : Act).put (some 4) (.int .i64 (x.1 : Int))) ?_ ?_ (fun pre W W' h _ => hrel93 _ W' h) ?_)
  · intro k x W K' hK'
    rw [show q69 3 = #[aS] by kernel_rfl]
    refine assign_one (op := aS) (x := .tmp 10) rfl rfl ?_
    have ez : ((#[10] : Array Tmp).zip (encP l x)).foldl (fun t (p, v) => t.setIfInBounds p v) a3.tmps = a3.tmps.setIfInBounds 10 (.int .i64 (x.1 : Int)) := by simp [encP]
    rw [ez]
    have : ({ tmps := a3.tmps.setIfInBounds 10 (.int .i64 (x.1 : Int)), defers := [] } : Act).eval (.tmp 10) = .int .i64 (x.1 : Int) := by
      have h15 : 10 < a3.tmps.size := by rw [ht3.1]; decide
      show (a3.tmps.setIfInBounds 10 (.int .i64 (x.1 : Int))).getD 10 undef = _
      rw [getD_setIfInBounds, if_pos ⟨rfl, h15⟩]
    rw [this]
    exact hK'
  · intro k pre x W Q' hx' hst' hQ'
    have hp : x.1 < l.length := starts_lt x.2
    have ht4 : TRel ι3 15 ((t3.set 10 (.int .i64 (x.1 : Int))).set 4 (.int .i64 (x.1 : Int))) ((({ tmps := a3.tmps.setIfInBounds 10 (.int .i64 (x.1 : Int)), defers := [] } : Act)).put (some 4) (.int .i64 (x.1 : Int))) :=
      TRel.putD (n := 15) (dst := some 4) (TRel.setI (N := 15) ht3 (by decide) (.int _ _)) rfl (.int _ _)
    obtain ⟨x4, hx4⟩ := ht4.full [(3, ptrV 3 0), (4, .int .i64 (x.1 : Int))] (by
      intro q hq
      simp only [List.mem_cons, List.not_mem_nil, or_false] at hq
      rcases hq with rfl | rfl
      · show (Tmps.set _ 4 _).at 3 = _
        rw [Tmps.at_set_ne _ (by decide)]
        exact (Tmps.at_set_ne _ (by decide) _).trans h33
      · exact Tmps.at_set_same _ _ _)
    refine st_pieceIn hmix hK hng (oSh_ok B0) oSh_grw hS_on hS_off (by kernel_rfl) (t_st4 x4 false (codeC l) (boolsAt (pre.map Subtype.val) l.length) (boolsAt (pre.map Subtype.val ++ [x.1]) l.length) l.length (x.1 : Int)).1 (t_st4 x4 false (codeC l) (boolsAt (pre.map Subtype.val) l.length) (boolsAt (pre.map Subtype.val ++ [x.1]) l.length) l.length (x.1 : Int)).2
      (cons_p ⟨by omega, by omega⟩ (cons_p (qSt_of hp) nil_p)) hst' (mS_only four) hx4 hx' fun ι5 a5 W5 t5 hs5 ht5 hv5 hd5 hk5 hkp5 => ?_
    have hι5 : ι5 = ι3 := by
      funext b
      rcases Nat.lt_or_ge b 5 with h | h
      · exact hk5 b h
      · rw [hs5.fresh b h, hst'.fresh b h]
    subst hι5
    refine hQ' a5 W5 hkp5 ?_
    rw [List.map_append]
    exact hs5
  · intro D xs W hD hxs hst' hmk
    have hxs : xs.map Subtype.val = startsL l := hxs
    rw [hxs] at hst'
    simp only [Exit.inBlock, Exit.then]
    have ht5 : TRel ι3 15 t3 { a3 with defers := { target := .collected D, args := #[] } :: a3.defers } := ht3
    obtain ⟨x5, hx5⟩ := ht5.full [(3, ptrV 3 0)] (by intro q hq; obtain rfl := List.mem_singleton.1 hq; exact h33)
    refine wpIn_seq (st_piece hmix hK hng (oSh_ok B0) oSh_grw hS_on hS_off (t_st5 x5 false (codeC l) (boolsAt (startsL l) l.length) l.length).1 (t_st5 x5 false (codeC l) (boolsAt (startsL l) l.length) l.length).2 nil_p hst' (mS_only four) hx5 fun ι6 a6 W6 t6 hs6 ht6 hv6 hd6 hk6 hkp6 => ?_)
    simp only [Ex.to, Exit.then]
    refine wpIn_ret ?_
    have hd3' : a3.defers = [] := by rw [hd3, hd2, hd1]
    have hmk6 := hmk.keeps hkp6 D (List.mem_cons_self ..)
    show LeavesInM Fence.wide 1 Tryz.prog Tryz.f29 a6.tmps _ a6.defers .returning W6
    rw [hd6, hd3']
    refine ⟨by simp, .inl ⟨D, W6.putObj D (.deferred none), rfl, run_takeDeferred hmk6, _, results_tmp rfl _ _ _, ?_⟩⟩
    have hs7 : Go.DI.St B0 w ι6 (mT2 false (codeC l) (boolsAt (startsL l) l.length) l.length) (W6.putObj D (.deferred none)) := hs6.grown (fun b hb => mS_cells four b hb) (B := w.heap.size) (Nat.le_refl _) (grownBy_putObj' W6 D _) (fun r e => by
      cases e
      exact ⟨Nat.le_trans hs3.below.size hD, _, hmk6, rfl⟩)
    have hv2 : t6.at 2 = slBo l.length := at_of hv6 (2, slBo l.length) (by simp)
    have hret := ht6.2 2
    rw [hv2] at hret
    have hown2 : ∀ L, ι6 2 = some L → w.heap.size ≤ L.block := fun L hL => hs7.own 2 L hL (by
      show ((mS gl _).get 2).own = true
      rw [mS_get]; rfl)
    obtain ⟨u, hu⟩ : ∃ u, a6.tmps.getD 2 undef = u := ⟨_, rfl⟩
    rw [hu] at hret
    obtain ⟨W7, hW7⟩ : ∃ W7, W6.putObj D (.deferred none) = W7 := ⟨_, rfl⟩
    rw [hW7] at hs7
    have hb7 : Below w.heap.size w W7 := hs7.below
    have h2none : ι 2 = none := hf 2 (by show 2 ≤ 2; omega) (by show 2 < 3; omega)
    have hle : ι.le fun b => if b = 2 then ι6 2 else ι b := fun b L hL => by
      show (if b = 2 then ι6 2 else ι b) = some L
      rw [if_neg (by rintro rfl; rw [h2none] at hL; cases hL)]
      exact hL
    have hsame : ∀ b, b < 2 → (mS gl [.cells own (codeC l), .cells true (boolsAt (startsL l) l.length)]).get b = (mS gl [.cells own (codeC l)]).get b := fun b hb => by
      have : b = 0 ∨ b = 1 := by omega
      rcases this with rfl | rfl
      · rw [mS_get, mS_get]; rfl
      · rw [mS_get, mS_get]; rfl
    have hg2 : (mS gl [.cells own (codeC l), .cells true (boolsAt (startsL l) l.length)]).get 2 = .cells true (boolsAt (startsL l) l.length) := by kernel_rfl
    show ∃ v' ι', Ending.returned (a6.tmps.getD 2 undef) = .returned v' ∧ _
    rw [hW7, hu]
    refine ⟨u, fun b => if b = 2 then ι6 2 else ι b, rfl, ?_, ⟨fun b L hb hL => ?_, fun b₁ b₂ L₁ L₂ b1 b2 e1 e2 l1 l2 g0 e => ?_, hs7.rel.floor, fun g hg => ?_, top_mS _⟩, ⟨hle, fun b hb => ?_, hb7.os, hb7.output, hb7.tape, hb7.size, fun B hB _ => hb7.block B hB, fun b L h1 h2 hL => ?_, by show 2 ≤ 3; omega, fun b hb ho => ?_⟩⟩
    · cases hret with
      | slc _ _ _ _ L hL => exact .slc _ _ _ _ L (by show (if (2 : Nat) = 2 then ι6 2 else ι 2) = some L; rw [if_pos rfl]; exact hL)
    · have hb : b < 3 := hb
      have hL : (if b = 2 then ι6 2 else ι b) = some L := hL
      by_cases h2 : b = 2
      · subst h2
        rw [if_pos rfl] at hL
        rw [hg2]
        have := hs7.rel.blk 2 L (by show 2 < 5; omega) hL
        rw [show (mT2 false (codeC l) (boolsAt (startsL l) l.length) l.length).get 2 = .cells true (boolsAt (startsL l) l.length) by kernel_rfl] at this
        obtain ⟨rc, e, fr, q1, q2, q3, q4, q5⟩ := this
        refine ⟨rc, e, fr, q1, q2, q3, fun i v hv => ?_, q5⟩
        obtain ⟨v', z1, z2⟩ := q4 i v hv
        refine ⟨v', z1, ?_⟩
        obtain ⟨k, _, rfl⟩ := List.mem_map.1 (List.mem_of_getElem? hv)
        exact free_bool _ _ _ _ z2
      · rw [if_neg h2] at hL
        rw [hsame b (by omega)]
        have h := hr.blk b L (by show b < 2; omega) hL
        exact h.monoL hle fun hl => hb7.block _ (h.lt hl)
    · have b1 : b₁ < 3 := b1
      have b2 : b₂ < 3 := b2
      have e1 : (if b₁ = 2 then ι6 2 else ι b₁) = some L₁ := e1
      have e2 : (if b₂ = 2 then ι6 2 else ι b₂) = some L₂ := e2
      have low : ∀ b L, b < 2 → ι b = some L → ((mS gl [.cells own (codeC l), .cells true (boolsAt (startsL l) l.length)]).get b).live → L.block < w.heap.size := fun b L hb hL hl => by
        rw [hsame b hb] at hl
        exact (hr.blk b L (by show b < 2; omega) hL).lt hl
      by_cases h1 : b₁ = 2 <;> by_cases h2 : b₂ = 2
      · rw [h1, h2]
      · rw [if_pos h1] at e1
        rw [if_neg h2] at e2
        have := hown2 L₁ e1
        have := low b₂ L₂ (by omega) e2 l2
        omega
      · rw [if_neg h1] at e1
        rw [if_pos h2] at e2
        have := hown2 L₂ e2
        have := low b₁ L₁ (by omega) e1 l1
        omega
      · rw [if_neg h1] at e1
        rw [if_neg h2] at e2
        rw [hsame b₁ (by omega)] at l1
        rw [hsame b₂ (by omega)] at l2
        exact hr.inj _ _ _ _ (by show b₁ < 2; omega) (by show b₂ < 2; omega) e1 e2 l1 l2 g0 e
    · obtain rfl : g = 0 := by omega
      exact hr.glob 0 (by decide)
    · show (if b = 2 then ι6 2 else ι b) = ι b
      have hb : b < 2 ∨ 3 ≤ b := hb
      rw [if_neg (by omega)]
    · have h1 : 2 ≤ b := h1
      have h2 : b < 3 := h2
      obtain rfl : b = 2 := by omega
      have hL : (if (2 : Nat) = 2 then ι6 2 else ι 2) = some L := hL
      rw [if_pos rfl] at hL
      exact .inl (hown2 L hL)
    · rw [hsame b hb] at ho; exact ho
end
end Go.Proofs.YtipdeijgaabobaaGreatDoor
/-
  VCheck1: shape.Check: its pieces.
-/
namespace Go.Proofs.YtipdeijgaabobaaGreatDoor
open Go Go.DI Go.DI.Kit Go.Proofs Go.Cmp Go.RowKit
noncomputable section
noncomputable def c45 : Code := bodyOf Tryz.f28
theorem at45 : Tryz.prog.funcs[28]? = some Tryz.f28 := by kernel_rfl
theorem bd45 : Tryz.f28.body = some c45 := by kernel_rfl
noncomputable def q45 (i : Nat) : Array Oper := regA c45 i
noncomputable def b45_0 : Code := .block 0 (.seq (.region 1 (q45 1) false) (.cond (.tmp 16) (.seq (.region 2 (q45 2) false) .ret) (.seq (.region 3 (q45 3) false) (.cond (.tmp 21) (.seq (.region 4 (q45 4) false) .ret) .skip))))
noncomputable def b45_1 : Code := .block 1 (.loop (.seq (.region 6 (q45 6) false) (.seq (.cond (.tmp 36) .skip (.exit 1)) (.seq (.block 2 (.seq (.region 7 (q45 7) false) (.seq (.region 8 (q45 8) false) (.cond (.tmp 42) (.seq (.region 9 (q45 9) false) .ret) .skip)))) (.region 10 (q45 10) false)))))
noncomputable def b45_4 : Code := .block 4 (.seq (.region 14 (q45 14) false) (.seq (.seq (.region 15 (q45 15) false) (.cond (.tmp 56) (.seq (.region 16 (q45 16) false) .ret) .skip)) (.region 17 (q45 17) true)))
noncomputable def b45_6 : Code := .block 6 (.seq (.region 21 (q45 21) false) (.seq (.seq (.region 22 (q45 22) false) (.cond (.tmp 85) (.exit 6) .skip)) (.seq (.region 23 (q45 23) false) (.seq (.region 24 (q45 24) false) (.cond (.tmp 107) (.seq (.region 25 (q45 25) false) .ret) .skip)))))
noncomputable def b45_e : Code := .seq (.region 26 (q45 26) false) (.cond (.tmp 114) (.seq (.region 27 (q45 27) false) .ret) .skip)
theorem c45_eq : c45 = .seq (.region 0 (q45 0) false) (.seq b45_0 (.seq (.seq (.region 5 (q45 5) false) b45_1) (.seq (.region 11 (q45 11) false) (.seq (.seq (.region 12 (q45 12) false) (.block 3 (.rangeFunc (.tmp 47) #[48] (.region 13 (q45 13) false) b45_4)))
    (.seq (.region 18 (q45 18) false) (.seq (.seq (.region 19 (q45 19) false) (.block 5 (.rangeFunc (.tmp 67) #[68] (.region 20 (q45 20) false) b45_6))) (.seq b45_e (.seq (.region 28 (q45 28) false) .ret)))))))) := by kernel_rfl
noncomputable def Wv (c op z : Int) (wide reg : Bool) : List Value := [.int .i64 c, .int .i64 op, .int .i64 z, .bool wide, .bool reg]
noncomputable def outW (w : List Value) : Value := .tuple ⟨[.agg ⟨w⟩, .int .i64 0]⟩
noncomputable def hC (w x : List Value) (y : List Value) (b6 b7 : Bool) (own8 : Bool) (ors : Orc) : H.Hint where
  ix t := Nat.beq t 25 || Nat.beq t 81
  ld k t _ := cond (Nat.beq t 24) (some (.agg ⟨x⟩)) (cond (Nat.beq t 4 && Nat.beq k 8) (some (.bool true)) none)
  cmp op t := cond (Nat.beq t 3) (BinOp.rec (motive := fun _ => Option Bool) none none none none none none none none none none none none none (cond own8 (some false) none) none (some false) (some false) op) none
  ap _ := none
  call f := cond (Nat.beq f 67) (some (outW w)) (cond (Nat.beq f 31) (some (outW w)) (cond (Nat.beq f 32) (some undef) (cond (Nat.beq f 29) (some (.slice (some ⟨8, 0, none⟩) y.length y.length)) none)))
  spec _ _ _ _ := False
  blk := 0
  specM f := some fun args m v => ors f args m = some (v, cond (Nat.beq f 29) (m.push (.cells true y)) m)
  eff f m := cond (Nat.beq f 29) (m.push (.cells true y)) m
  cmpY op t v := cond (Nat.beq t 3) (BinOp.rec (motive := fun _ => Option Bool) none none none none none none none none none none none (match v with | .int _ n => cond (Nat.beq n.toNat 0) (some false) none | _ => none) (match v with | .int _ n => cond (Nat.beq n.toNat 6) (some b6) (cond (Nat.beq n.toNat 7) (some b7) none) | _ => none) none none none none op) none
noncomputable def mC0 (L : List Value) : Mem := mS gl [.cells false L]
noncomputable def imgB (n : Nat) : Blk := .cells true (imgC (sliceN 1 n))
noncomputable def cI (z : Int) : Blk := .cells true [.int .i64 z]
noncomputable def mC1 (L : List Value) (n : Nat) : Mem := mS gl [.cells false L, imgB n, cI 0, cI 0]
noncomputable def mC2 (L : List Value) (n : Nat) (a c : Int) : Mem := mS gl [.cells false L, imgB n, cI 0, cI 0, cI a, cI c]
noncomputable def mC3 (L : List Value) (n : Nat) (a c : Int) : Mem := mS gl [.cells false L, imgB n, cI 0, cI 0, cI a, cI c, .cells true [sliceN 1 n]]
noncomputable def mC3w (L : List Value) (n : Nat) (a c : Int) (w : List Value) : Mem := mS gl [.cells false L, imgB n, cI 0, cI 0, cI a, cI c, .cells true [sliceN 1 n], .cells true w]
noncomputable def slS (n : Nat) : Value := .slice (some ⟨8, 0, none⟩) n n
noncomputable def mC4 (L : List Value) (n : Nat) (a c : Int) (y : List Value) : Mem := mS gl [.cells false L, imgB n, cI 0, cI 0, cI a, cI c, .cells true [sliceN 1 n], .cells true y, .cells true [slS y.length]]
noncomputable def mC5 (L : List Value) (n : Nat) (a c : Int) (y : List Value) : Mem := mS gl [.cells false L, imgB n, cI 0, cI 0, cI a, cI c, .cells true [sliceN 1 n], .cells true y, .cells true [slS y.length], .cells true [sliceN 1 n]]
noncomputable def mC5w (L : List Value) (n : Nat) (a c : Int) (y w : List Value) : Mem := mS gl [.cells false L, imgB n, cI 0, cI 0, cI a, cI c, .cells true [sliceN 1 n], .cells true y, .cells true [slS y.length], .cells true [sliceN 1 n], .cells true w]
noncomputable def hC0 (ors : Orc) : H.Hint := hC [] [] [] false false false ors
noncomputable def eq0 (n : Nat) : Prop := binD Tryz.prog kp .eql 3 (.int .i64 (Int.ofNat n)) (.int .i64 0) = some (.bool false)
noncomputable def gt3 (n m : Int) : Prop := binD Tryz.prog kp .gtr 3 (.int .i64 n) (.int .i64 m) = some (.bool false)
theorem t_c0 (x : Nat → Value) (ors : Orc) (L : List Value) (n : Nat) : ansX (pcR (hC0 ors) Tryz.prog kp (.region 0 (q45 0) false) 116 [1, 2, 3] (fullN 116 (up x [(0, imgV (sliceN 1 n))])) (mC0 L)) = some ((.normal, [ptrV 2 0, ptrV 3 0, ptrV 4 0], mC1 L n), []) ∧ evenX (pcR (hC0 ors) Tryz.prog kp (.region 0 (q45 0) false) 116 [1, 2, 3] (fullN 116 (up x [(0, imgV (sliceN 1 n))])) (mC0 L)) := ⟨by kernel_rfl, by unfold evenX; kernel_rfl⟩
theorem t_cb0 (x : Nat → Value) (ors : Orc) (L : List Value) (n : Nat) : ansX (pcR (hC0 ors) Tryz.prog kp b45_0 116 [1, 2, 3] (fullN 116 (up x [(1, ptrV 2 0), (2, ptrV 3 0), (3, ptrV 4 0)])) (mC1 L n)) = some ((.normal, [ptrV 2 0, ptrV 3 0, ptrV 4 0], mC1 L n), [eq0 n, gt3 (Int.ofNat n) 512, gt3 0 4]) ∧ evenX (pcR (hC0 ors) Tryz.prog kp b45_0 116 [1, 2, 3] (fullN 116 (up x [(1, ptrV 2 0), (2, ptrV 3 0), (3, ptrV 4 0)])) (mC1 L n)) := ⟨by kernel_rfl, by unfold evenX; kernel_rfl⟩
theorem t_cb1 (x : Nat → Value) (ors : Orc) (L : List Value) (n : Nat) : ansX (pcR (hC0 ors) Tryz.prog kp (.seq (.region 5 (q45 5) false) b45_1) 116 [1, 2, 3] (fullN 116 (up x [(1, ptrV 2 0), (2, ptrV 3 0), (3, ptrV 4 0)])) (mC1 L n)) = some ((.normal, [ptrV 2 0, ptrV 3 0, ptrV 4 0], mC1 L n), []) ∧ evenX (pcR (hC0 ors) Tryz.prog kp (.seq (.region 5 (q45 5) false) b45_1) 116 [1, 2, 3] (fullN 116 (up x [(1, ptrV 2 0), (2, ptrV 3 0), (3, ptrV 4 0)])) (mC1 L n)) := ⟨by kernel_rfl, by unfold evenX; kernel_rfl⟩
theorem t_c11 (x : Nat → Value) (ors : Orc) (L : List Value) (n : Nat) : ansX (pcR (hC0 ors) Tryz.prog kp (.region 11 (q45 11) false) 116 [1, 2, 3, 6, 7] (fullN 116 (up x [(1, ptrV 2 0), (2, ptrV 3 0), (3, ptrV 4 0)])) (mC1 L n)) = some ((.normal, [ptrV 2 0, ptrV 3 0, ptrV 4 0, ptrV 5 0, ptrV 6 0], mC2 L n 0 0), []) ∧ evenX (pcR (hC0 ors) Tryz.prog kp (.region 11 (q45 11) false) 116 [1, 2, 3, 6, 7] (fullN 116 (up x [(1, ptrV 2 0), (2, ptrV 3 0), (3, ptrV 4 0)])) (mC1 L n)) := ⟨by kernel_rfl, by unfold evenX; kernel_rfl⟩
noncomputable def knC : List (Nat × Value) := [(1, ptrV 2 0), (2, ptrV 3 0), (3, ptrV 4 0), (6, ptrV 5 0), (7, ptrV 6 0)]
noncomputable def vsC : List Value := [ptrV 2 0, ptrV 3 0, ptrV 4 0, ptrV 5 0, ptrV 6 0]
theorem t_c12 (x : Nat → Value) (ors : Orc) (L : List Value) (n : Nat) (a c : Int) : ansX (pcR (hC0 ors) Tryz.prog kp (.region 12 (q45 12) false) 116 [1, 2, 3, 6, 7, 47] (fullN 116 (up x knC)) (mC2 L n a c)) = some ((.normal, vsC ++ [cl93 7], mC3 L n a c), []) ∧ evenX (pcR (hC0 ors) Tryz.prog kp (.region 12 (q45 12) false) 116 [1, 2, 3, 6, 7, 47] (fullN 116 (up x knC)) (mC2 L n a c)) := ⟨by kernel_rfl, by unfold evenX; kernel_rfl⟩
/-- One round of the first loop. -/
theorem t_c4 (x : Nat → Value) (ors : Orc) (L : List Value) (n : Nat) (a c p cl op z : Int) (wide reg : Bool) : ansX (pcR (hC (Wv cl op z wide reg) [] [] false false false ors) Tryz.prog kp b45_4 116 [] (fullN 116 (up x (knC ++ [(8, .int .i64 p)]))) (mC3 L n a c)) = some ((.normal, [], mC3w L n p cl (Wv cl op z wide reg)), [ors 67 [imgV (sliceN 1 n), .int .i64 p] (mC3 L n a c) = some (outW (Wv cl op z wide reg), mC3 L n a c)]) ∧
    evenX (pcR (hC (Wv cl op z wide reg) [] [] false false false ors) Tryz.prog kp b45_4 116 [] (fullN 116 (up x (knC ++ [(8, .int .i64 p)]))) (mC3 L n a c)) := ⟨by kernel_rfl, by unfold evenX; kernel_rfl⟩
theorem t_c18 (x : Nat → Value) (ors : Orc) (L y : List Value) (n : Nat) (a c : Int) : ansX (pcR (hC [] [] y false false false ors) Tryz.prog kp (.region 18 (q45 18) false) 116 [1, 2, 3, 6, 7, 11] (fullN 116 (up x knC)) (mC3 L n a c)) = some ((.normal, vsC ++ [ptrV 9 0], mC4 L n a c y), [ors 29 [sliceN 1 n] (mC3 L n a c) = some (slS y.length, (mC3 L n a c).push (.cells true y))]) ∧
    evenX (pcR (hC [] [] y false false false ors) Tryz.prog kp (.region 18 (q45 18) false) 116 [1, 2, 3, 6, 7, 11] (fullN 116 (up x knC)) (mC3 L n a c)) := ⟨by kernel_rfl, by unfold evenX; kernel_rfl⟩
theorem t_c19 (x : Nat → Value) (ors : Orc) (L y : List Value) (n : Nat) (a c : Int) : ansX (pcR (hC0 ors) Tryz.prog kp (.region 19 (q45 19) false) 116 [1, 2, 3, 6, 7, 11, 67] (fullN 116 (up x (knC ++ [(11, ptrV 9 0)]))) (mC4 L n a c y)) = some ((.normal, vsC ++ [ptrV 9 0, cl93 10], mC5 L n a c y), []) ∧
    evenX (pcR (hC0 ors) Tryz.prog kp (.region 19 (q45 19) false) 116 [1, 2, 3, 6, 7, 11, 67] (fullN 116 (up x (knC ++ [(11, ptrV 9 0)]))) (mC4 L n a c y)) := ⟨by kernel_rfl, by unfold evenX; kernel_rfl⟩
noncomputable def ne3 (c k : Int) (b : Bool) : Prop := binD Tryz.prog kp .neq 3 (.int .i64 c) (.int .i64 k) = some (.bool b)
/-- Rounds of the second loop: no jump; a jump. -/
theorem t_c6a (x : Nat → Value) (ors : Orc) (L X y : List Value) (n : Nat) (a c p cl op z : Int) (wide reg : Bool) : ansX (pcR (hC (Wv cl op z wide reg) X y true true true ors) Tryz.prog kp b45_6 116 [] (fullN 116 (up x (knC ++ [(11, ptrV 9 0), (12, .int .i64 p)]))) (mC5 L n a c y)) = some ((.normal, [], mC5w L n a c y (Wv cl op z wide reg)), [ixP p n, ldP L p X, ors 31 [.agg ⟨X⟩] (mC5 L n a c y) = some (outW (Wv cl op z wide reg), mC5 L n a c y), ne3 cl 6 true, ne3 cl 7 true]) ∧
    evenX (pcR (hC (Wv cl op z wide reg) X y true true true ors) Tryz.prog kp b45_6 116 [] (fullN 116 (up x (knC ++ [(11, ptrV 9 0), (12, .int .i64 p)]))) (mC5 L n a c y)) := ⟨by kernel_rfl, by unfold evenX; kernel_rfl⟩
theorem t_c28 (x : Nat → Value) (ors : Orc) (L y : List Value) (n : Nat) (a c : Int) : ansX (pcR (hC0 ors) Tryz.prog kp (.region 28 (q45 28) false) 116 [2, 3] (fullN 116 (up x knC)) (mC5 L n a c y)) = some ((.normal, [ptrV 3 0, ptrV 4 0], mC5 L n a c y), []) ∧ evenX (pcR (hC0 ors) Tryz.prog kp (.region 28 (q45 28) false) 116 [2, 3] (fullN 116 (up x knC)) (mC5 L n a c y)) := ⟨by kernel_rfl, by unfold evenX; kernel_rfl⟩
theorem t_ce (x : Nat → Value) (ors : Orc) (L y : List Value) (n : Nat) (a : Int) : ansX (pcR (hC [] [] [] true true false ors) Tryz.prog kp b45_e 116 [1, 2, 3, 6, 7] (fullN 116 (up x knC)) (mC5 L n a 9 y)) = some ((.normal, vsC, mC5 L n a 9 y), [ne3 9 7 true]) ∧ evenX (pcR (hC [] [] [] true true false ors) Tryz.prog kp b45_e 116 [1, 2, 3, 6, 7] (fullN 116 (up x knC)) (mC5 L n a 9 y)) := ⟨by kernel_rfl, by unfold evenX; kernel_rfl⟩
end
end Go.Proofs.YtipdeijgaabobaaGreatDoor
/-
  VCheck2: shape.Check: a round at a jump; what the rounds want.
-/
namespace Go.Proofs.YtipdeijgaabobaaGreatDoor
open Go Go.DI Go.DI.Kit Go.Proofs Go.Cmp Go.RowKit
noncomputable section
noncomputable def tgt (p o : Int) : Int := IntKind.wrap .i64 (Int.add (IntKind.wrap .i64 (Int.add p 1)) (IntKind.wrap .i64 o))
noncomputable def ls3 (t : Int) : Prop := binD Tryz.prog kp .lss 3 (.int .i64 t) (.int .i64 0) = some (.bool false)
noncomputable def ge3 (t : Int) (n : Nat) : Prop := binD Tryz.prog kp .geq 3 (.int .i64 t) (.int .i64 (Int.ofNat n)) = some (.bool false)
noncomputable def qB (y : List Value) (t : Int) : Prop := H.ldOk (.cells true y) (Nat.add 0 (Nat.mul t.toNat 1)) false 1 (.bool true)
noncomputable def insW (i1 i2 i3 o i5 : Int) : List Value := [.int .u8 i1, .int .u8 i2, .int .u8 i3, .int .i16 o, .int .i32 i5]
noncomputable def mC5x (L : List Value) (n : Nat) (a c : Int) (y w x : List Value) : Mem := mS gl [.cells false L, imgB n, cI 0, cI 0, cI a, cI c, .cells true [sliceN 1 n], .cells true y, .cells true [slS y.length], .cells true [sliceN 1 n], .cells true w, .cells true x]
theorem t_c6b (x : Nat → Value) (ors : Orc) (L y : List Value) (n : Nat) (a c p cl op z i1 i2 i3 o i5 : Int) (wide reg : Bool) : ansX (pcR (hC (Wv cl op z wide reg) (insW i1 i2 i3 o i5) y false true true ors) Tryz.prog kp b45_6 116 [] (fullN 116 (up x (knC ++ [(11, ptrV 9 0), (12, .int .i64 p)]))) (mC5 L n a c y)) = some ((.normal, [], mC5x L n a c y (Wv cl op z wide reg) (insW i1 i2 i3 o i5)), [ixP p n, ldP L p (insW i1 i2 i3 o i5), ors 31 [.agg ⟨insW i1 i2 i3 o i5⟩] (mC5 L n a c y) = some (outW (Wv cl op z wide reg), mC5 L n a c y), ne3 cl 6 false, ixP p n, ldP L p (insW i1 i2 i3 o i5), ls3 (tgt p o), ge3 (tgt p o) y.length, ixP (tgt p o) y.length, qB y (tgt p o)]) ∧
    evenX (pcR (hC (Wv cl op z wide reg) (insW i1 i2 i3 o i5) y false true true ors) Tryz.prog kp b45_6 116 [] (fullN 116 (up x (knC ++ [(11, ptrV 9 0), (12, .int .i64 p)]))) (mC5 L n a c y)) := ⟨by kernel_rfl, by unfold evenX; kernel_rfl⟩
theorem t_c6c (x : Nat → Value) (ors : Orc) (L y : List Value) (n : Nat) (a c p cl op z i1 i2 i3 o i5 : Int) (wide reg : Bool) : ansX (pcR (hC (Wv cl op z wide reg) (insW i1 i2 i3 o i5) y true false true ors) Tryz.prog kp b45_6 116 [] (fullN 116 (up x (knC ++ [(11, ptrV 9 0), (12, .int .i64 p)]))) (mC5 L n a c y)) = some ((.normal, [], mC5x L n a c y (Wv cl op z wide reg) (insW i1 i2 i3 o i5)), [ixP p n, ldP L p (insW i1 i2 i3 o i5), ors 31 [.agg ⟨insW i1 i2 i3 o i5⟩] (mC5 L n a c y) = some (outW (Wv cl op z wide reg), mC5 L n a c y), ne3 cl 6 true, ne3 cl 7 false, ixP p n, ldP L p (insW i1 i2 i3 o i5), ls3 (tgt p o), ge3 (tgt p o) y.length, ixP (tgt p o) y.length, qB y (tgt p o)]) ∧
    evenX (pcR (hC (Wv cl op z wide reg) (insW i1 i2 i3 o i5) y true false true ors) Tryz.prog kp b45_6 116 [] (fullN 116 (up x (knC ++ [(11, ptrV 9 0), (12, .int .i64 p)]))) (mC5 L n a c y)) := ⟨by kernel_rfl, by unfold evenX; kernel_rfl⟩
/-! ### the oracle for the checks of one code -/
open Classical in
noncomputable def oSt (l : List Ins) : Orc := fun f a M => if f = 29 ∧ a = [sliceN 1 l.length] ∧ (∃ own, M.get 1 = .cells own (codeC l)) ∧ Fits gl [1] [M.get 1] M then some (.slice (some ⟨M.size, 0, none⟩) l.length l.length, M.push (.cells true (boolsAt (startsL l) l.length))) else none
theorem oSt_off {l : List Ins} {f : FuncId} (h : f ≠ 29) (a : List Value) (M : Mem) : oSt l f a M = none := if_neg fun g => h g.1
theorem starts_big {B0 : Nat} {own : Bool} {l : List Ins} (hS : ShapeOk l) {M : Mem} (g1 : M.get 1 = .cells own (codeC l)) (hF : Fits gl [1] [M.get 1] M) :
    CallOK Tryz.prog B0 1 29 [sliceN 1 l.length] M (.slice (some ⟨M.size, 0, none⟩) l.length l.length) (M.push (.cells true (boolsAt (startsL l) l.length))) := by
  have hcp : ∀ o : Bool, okB (.cells o (codeC l)) ∧ ∀ nb, seenB nb (.cells o (codeC l)) := fun o => ⟨fun v hv => plain_ok (List.all_eq_true.1 (codeC_plain l) v hv), fun nb v hv => plain_seen (List.all_eq_true.1 (codeC_plain l) v hv)⟩
  have h1 : 1 < M.size := hF.lt 1 (by simp)
  have r0 : rhoE [1] M 0 = 0 := rfl
  have r1 : rhoE [1] M 1 = 1 := rfl
  have r2 : rhoE [1] M 2 = M.size := rfl
  have hA : ∀ i : Nat, Nat.blt i 2 = true → i = 0 ∨ i = 1 := fun i hi => by have : i < 2 := by simpa [Nat.blt_eq] using hi
                                                                            omega
  obtain ⟨ms, hms⟩ : ∃ ms, mS gl [.cells own (codeC l)] = ms := ⟨_, rfl⟩
  obtain ⟨ms', hms'⟩ : ∃ ms', mS gl [.cells own (codeC l), .cells true (boolsAt (startsL l) l.length)] = ms' := ⟨_, rfl⟩
  have s1 : ms.size = 2 := by rw [← hms, mS_size]; rfl
  have s2 : ms'.size = 3 := by rw [← hms', mS_size]; rfl
  have k0 : ms.get 0 = .cells false gl := by rw [← hms, mS_get, if_pos (by decide), mG_get]
  have k1 : ms.get 1 = .cells own (codeC l) := by rw [← hms, mS_get]; rfl
  have k0' : ms'.get 0 = .cells false gl := by rw [← hms', mS_get, if_pos (by decide), mG_get]
  have k1' : ms'.get 1 = .cells own (codeC l) := by rw [← hms', mS_get]; rfl
  have k2' : ms'.get 2 = .cells true (boolsAt (startsL l) l.length) := by rw [← hms', mS_get]; rfl
  have hsame : ∀ b, b < 2 → ms'.get b = ms.get b := fun b hb => by
    have : b = 0 ∨ b = 1 := by omega
    rcases this with rfl | rfl
    · rw [k0, k0']
    · rw [k1, k1']
  have hrun := starts_ok (B0 := B0) (own := own) hS
  rw [hms, hms'] at hrun
  refine embedG (ρ := rhoE [1] M) (A := fun i => Nat.blt i 2) 1 (fun g hg => ⟨hg, by obtain rfl : g = 0 := by omega
                                                                                     rfl, by obtain rfl : g = 0 := by omega
                                                                                             rfl⟩) hrun ⟨fun i hi => ?_, ⟨by omega, fun _ => by rw [← hms']; exact top_mS _, fun b hb hl => ?_, fun b hb ho => ?_⟩, by rw [← hms]; exact top_mS _, top_push hF.top, fun i hi => ?_, fun i j hi hj _ _ e => ?_, fun i q1 q2 => ?_, by show M.size + 1 = _; omega, fun i hi => ?_, fun i q1 q2 => ?_, fun b hb hne => ?_⟩ (.cons ?_ .nil) ?_
  · rcases hA i hi with rfl | rfl <;> omega
  · rw [hsame b (by omega)] at hl; exact hl
  · rw [hsame b (by omega)] at ho; exact ho
  · rcases hA i hi with rfl | rfl
    · rw [r0]; omega
    · rw [r1]; exact h1
  · rcases hA i hi with rfl | rfl <;> rcases hA j hj with rfl | rfl
    · rfl
    · rw [r0, r1] at e; omega
    · rw [r0, r1] at e; omega
    · rfl
  · obtain rfl : i = 2 := by omega
    rw [r2]; omega
  · rcases hA i hi with rfl | rfl
    · rw [k0, r0, hF.gl0]; exact bsim_free free_gl
    · rw [k1, r1]
      have h2 := bsim_ren (ρ := rhoE [1] M) (nb := 2) (hcp own).1 ((hcp own).2 2)
      have e : renB (rhoE [1] M) (.cells own (codeC l)) = M.get 1 := by
        rw [g1]
        show Blk.cells own _ = _
        rw [ren_plains (codeC_plain l)]
      rw [e] at h2
      exact h2
  · right
    have : i = 0 ∨ i = 1 ∨ i = 2 := by omega
    rcases this with rfl | rfl | rfl
    · rw [k0', r0, Mem.get_push_ne _ (by omega), hF.gl0]; exact bemb_free free_gl
    · rw [k1', r1, Mem.get_push_ne _ (by omega), g1]
      have h2 := bemb_ren (ρ := rhoE [1] M) (hcp own).1
      have e : renB (rhoE [1] M) (.cells own (codeC l)) = .cells own (codeC l) := by
        show Blk.cells own _ = _
        rw [ren_plains (codeC_plain l)]
      rw [e] at h2
      exact h2
    · rw [k2', r2, Mem.get_push_same]
      exact bemb_free fun v hv => by
        obtain ⟨i, _, rfl⟩ := List.mem_map.1 hv
        exact free_bool _
  · rw [Mem.get_push_ne _ (by omega)]
  · exact sim_slc (ρ := rhoE [1] M) (i := 1) rfl
  · show VEmb _ (.slice (some ⟨2, 0, none⟩) _ _) _
    have := emb_slc (ρ := rhoE [1] M) (i := 2) (o := 0) (n := l.length) (c := l.length)
    rw [r2] at this
    exact this
theorem oSt_grw {l : List Ins} : CfGrw (oSt l) := fun f a M v M' h => by
  unfold oSt at h
  split at h
  case isFalse => cases h
  rename_i hc
  simp only [Option.some.injEq, Prod.mk.injEq] at h
  obtain ⟨rfl, rfl⟩ := h
  have ht := hc.2.2.2.top
  refine ⟨by show M.size ≤ M.size + 1; omega, fun _ => top_push ht, fun b hb hl => ?_, fun b hb ho => ?_⟩
  · rw [Mem.get_push_ne _ (by omega)] at hl; exact hl
  · rw [Mem.get_push_ne _ (by omega)] at ho; exact ho
theorem oSt_ok {l : List Ins} (hS : ShapeOk l) (B0 : Nat) : CfOK Tryz.prog B0 1 (oSt l) := by
  refine ⟨fun f a M v M' h => (oSt_grw f a M v M' h).size, fun f a M v M' h => ?_, fun f a M v M' h => ?_⟩
  all_goals
    unfold oSt at h
    split at h
    case isFalse => cases h
    rename_i hc
    obtain ⟨rfl, rfl, ⟨own, g1⟩, hF⟩ := hc
    simp only [Option.some.injEq, Prod.mk.injEq] at h
    obtain ⟨rfl, rfl⟩ := h
  · exact starts_big hS g1 hF
  · exact hasB (by kernel_rfl)
noncomputable def oC (l : List Ins) : Orc := oAlt oSh (oSt l)
theorem oC_grw {l : List Ins} : CfGrw (oC l) := oAlt_grw oSh_grw oSt_grw
theorem oC_ok {l : List Ins} (hS : ShapeOk l) (B0 : Nat) : CfOK Tryz.prog B0 1 (oC l) := oAlt_ok (oSh_ok B0) (oSt_ok hS B0)
theorem oC_off {l : List Ins} {f : FuncId} (h1 : f ≠ 31) (h2 : f ≠ 32) (h3 : f ≠ 67) (h4 : f ≠ 29) (a : List Value) (M : Mem) : oC l f a M = none := by
  unfold oC
  rw [oAlt_r (oSh_off h1 h2 h3 a M), oSt_off h4]
theorem hC_on {l : List Ins} {w x y : List Value} {b6 b7 o8 : Bool} (f : FuncId) (v : Value) (args : List Value) (m : Mem) (hc : (hC w x y b6 b7 o8 (oC l)).call f = some v) (hs : (hC w x y b6 b7 o8 (oC l)).says f args m v) : oC l f args m = some (v, (hC w x y b6 b7 o8 (oC l)).eff f m) := hs
theorem hC_off {l : List Ins} {w x y : List Value} {b6 b7 o8 : Bool} (f : FuncId) (hc : (hC w x y b6 b7 o8 (oC l)).call f = none) (a : List Value) (m : Mem) : oC l f a m = none :=
  oC_off (by rintro rfl; cases hc) (by rintro rfl; cases hc) (by rintro rfl; cases hc) (by rintro rfl; cases hc) a m
end
end Go.Proofs.YtipdeijgaabobaaGreatDoor
/-
  VCheck3: shape.Check: what each place gives.
-/
namespace Go.Proofs.YtipdeijgaabobaaGreatDoor
open Go Go.DI Go.DI.Kit Go.Proofs Go.Cmp Go.RowKit
noncomputable section
def clsI (op : Int) : Int := if op = 149 then 9 else if op = 5 then 7 else if op = 24 then 10 else if op = 53 ∨ op = 85 ∨ op = 165 ∨ op = 37 ∨ op = 173 ∨ op = 45 then 6 else if op = 113 ∨ op = 105 ∨ op = 97 ∨ op = 121 then 3 else if op = 215 then 2 else 1
def clsAt (l : List Ins) (p : Nat) : Int := match l[p]? with | some x => clsI x.op | none => 0
theorem clsAt_of {l : List Ins} {p : Nat} {x : Ins} (h : l[p]? = some x) : clsAt l p = clsI x.op := by unfold clsAt; rw [h]
theorem formI {x : Ins} (h : OkI x) : ∃ op z w r, Form x (Wv (clsI x.op) op z w r) ∧ clsI x.op ≠ 6 ∧ clsI x.op ≠ 7 := by
  cases h with
  | @movI d n hd => exact ⟨11, 0, true, false, by rw [show clsI (iNum 11 d n).op = 1 by rfl]; exact fm_movI hd, by rw [show clsI (iNum 11 d n).op = 1 by rfl]; decide, by rw [show clsI (iNum 11 d n).op = 1 by rfl]; decide⟩
  | @andI d n hd => exact ⟨5, 0, true, false, by rw [show clsI (iNum 5 d n).op = 1 by rfl]; exact fm_andI hd, by rw [show clsI (iNum 5 d n).op = 1 by rfl]; decide, by rw [show clsI (iNum 5 d n).op = 1 by rfl]; decide⟩
  | @movR d s hd hs => exact ⟨11, 0, true, true, by rw [show clsI (iRegs 11 d s).op = 1 by rfl]; exact fm_movR hd hs, by rw [show clsI (iRegs 11 d s).op = 1 by rfl]; decide, by rw [show clsI (iRegs 11 d s).op = 1 by rfl]; decide⟩
  | @andR d s hd hs => exact ⟨5, 0, true, true, by rw [show clsI (iRegs 5 d s).op = 1 by rfl]; exact fm_andR hd hs, by rw [show clsI (iRegs 5 d s).op = 1 by rfl]; decide, by rw [show clsI (iRegs 5 d s).op = 1 by rfl]; decide⟩
  | @low n => exact ⟨11, 0, false, false, by rw [show clsI (iLow n).op = 1 by rfl]; exact fm_low, by rw [show clsI (iLow n).op = 1 by rfl]; decide, by rw [show clsI (iLow n).op = 1 by rfl]; decide⟩
  | exit => exact ⟨0, 0, false, false, by rw [show clsI iExit.op = 9 by rfl]; exact fm_exit, by rw [show clsI iExit.op = 9 by rfl]; decide, by rw [show clsI iExit.op = 9 by rfl]; decide⟩
  | @load z d s o hz hd hs =>
    rcases hz with rfl | rfl | rfl | rfl
    · exact ⟨0, 1, false, false, by rw [show clsI (iLoad 1 d s o).op = 3 by rfl]; exact fm_load1 hd hs, by rw [show clsI (iLoad 1 d s o).op = 3 by rfl]; decide, by rw [show clsI (iLoad 1 d s o).op = 3 by rfl]; decide⟩
    · exact ⟨0, 2, false, false, by rw [show clsI (iLoad 2 d s o).op = 3 by rfl]; exact fm_load2 hd hs, by rw [show clsI (iLoad 2 d s o).op = 3 by rfl]; decide, by rw [show clsI (iLoad 2 d s o).op = 3 by rfl]; decide⟩
    · exact ⟨0, 4, false, false, by rw [show clsI (iLoad 4 d s o).op = 3 by rfl]; exact fm_load4 hd hs, by rw [show clsI (iLoad 4 d s o).op = 3 by rfl]; decide, by rw [show clsI (iLoad 4 d s o).op = 3 by rfl]; decide⟩
    · exact ⟨0, 8, false, false, by rw [show clsI (iLoad 8 d s o).op = 3 by rfl]; exact fm_load8 hd hs, by rw [show clsI (iLoad 8 d s o).op = 3 by rfl]; decide, by rw [show clsI (iLoad 8 d s o).op = 3 by rfl]; decide⟩
  | @swap z hz hz1 =>
    rcases hz with rfl | rfl | rfl | rfl
    · omega
    · exact ⟨0, 2, false, false, by rw [show clsI (iSwap 2).op = 2 by rfl]; exact fm_swap2, by rw [show clsI (iSwap 2).op = 2 by rfl]; decide, by rw [show clsI (iSwap 2).op = 2 by rfl]; decide⟩
    · exact ⟨0, 4, false, false, by rw [show clsI (iSwap 4).op = 2 by rfl]; exact fm_swap4, by rw [show clsI (iSwap 4).op = 2 by rfl]; decide, by rw [show clsI (iSwap 4).op = 2 by rfl]; decide⟩
    · exact ⟨0, 8, false, false, by rw [show clsI (iSwap 8).op = 2 by rfl]; exact fm_swap8, by rw [show clsI (iSwap 8).op = 2 by rfl]; decide, by rw [show clsI (iSwap 8).op = 2 by rfl]; decide⟩
theorem formJ {x : Ins} {o : Int} (h : OkJ x) : ∃ op z w r, Form (offS x o) (Wv (clsI (offS x o).op) op z w r) ∧ (clsI (offS x o).op = 6 ∨ clsI (offS x o).op = 7) := by
  cases h with
  | @jif op d n ho hd =>
    rcases ho with rfl | rfl | rfl | rfl
    · exact ⟨3, 0, true, false, by rw [show clsI (offS (iIf 3 d n) o).op = 6 by rfl]; exact fm_jif3 hd, .inl rfl⟩
    · exact ⟨5, 0, true, false, by rw [show clsI (offS (iIf 5 d n) o).op = 6 by rfl]; exact fm_jif5 hd, .inl rfl⟩
    · exact ⟨10, 0, true, false, by rw [show clsI (offS (iIf 10 d n) o).op = 6 by rfl]; exact fm_jif10 hd, .inl rfl⟩
    · exact ⟨2, 0, true, false, by rw [show clsI (offS (iIf 2 d n) o).op = 6 by rfl]; exact fm_jif2 hd, .inl rfl⟩
  | @jifR op ho =>
    rcases ho with rfl | rfl
    · exact ⟨10, 0, true, true, by rw [show clsI (offS (iIfR 10) o).op = 6 by rfl]; exact fm_jifR10, .inl rfl⟩
    · exact ⟨2, 0, true, true, by rw [show clsI (offS (iIfR 2) o).op = 6 by rfl]; exact fm_jifR2, .inl rfl⟩
  | goto => exact ⟨0, 0, false, false, by rw [show clsI (offS iGoto o).op = 7 by rfl]; exact fm_goto, .inr rfl⟩
theorem starts_next {l : List Ins} {p z : Nat} : ∀ (k q : Nat) (init : List Nat), startsGo l k q = init ++ [z] → p ∈ startsGo l k q → p = z ∨ ∃ x, l[p]? = some x ∧ p + plI x ∈ startsGo l k q
  | 0, q, init, h, hp => by simp [startsGo] at hp
  | k + 1, q, init, h, hp => by
    simp only [startsGo] at h hp ⊢
    cases hx : l[q]? with
    | none => rw [hx] at hp; simp at hp
    | some x =>
      rw [hx] at h hp
      simp only at h hp ⊢
      cases hr : startsGo l k (q + plI x) with
      | nil =>
        rw [hr] at h hp
        have : p = q := by simpa using hp
        left
        cases init with
        | nil => simp at h; omega
        | cons a b => simp at h
      | cons y rest =>
        have hy : y = q + plI x := by
          cases k with
          | zero => simp [startsGo] at hr
          | succ k =>
            simp only [startsGo] at hr
            cases hx2 : l[q + plI x]? with
            | none => rw [hx2] at hr; simp at hr
            | some x2 => rw [hx2] at hr; simp at hr; exact hr.1.symm
        rcases List.mem_cons.1 hp with e | hp'
        · subst e
          exact .inr ⟨x, hx, by rw [hy]; simp⟩
        · cases init with
          | nil => rw [hr] at h; simp at h
          | cons a b =>
            have h2 : startsGo l k (q + plI x) = b ++ [z] := by
              simp only [List.cons_append, List.cons.injEq] at h
              exact h.2
            rcases starts_next k (q + plI x) b h2 hp' with g | ⟨x', g1, g2⟩
            · exact .inl g
            · exact .inr ⟨x', g1, by rw [← hr]; exact List.mem_cons_of_mem _ g2⟩
theorem last_room {l : List Ins} (hS : ShapeOk l) {p : Nat} {n : Int} (h : l[p]? = some (iConst n)) (hp : p ∈ startsL l) : p + 2 < l.length := by
  obtain ⟨init, z, h1, h2⟩ := hS.last
  rcases starts_next l.length 0 init h1 hp with rfl | ⟨x, hx, hm⟩
  · rw [h2] at h
    simp [iExit, iConst] at h
  · rw [h] at hx
    cases hx
    exact starts_lt hm
/-- The first loop's rounds. -/
theorem round1 {l : List Ins} (hS : ShapeOk l) {p : Nat} (hp : p ∈ startsL l) : ∃ op z w r, AlRun false (codeC l) l.length (p : Int) (Wv (clsAt l p) op z w r) := by
  rcases hS.found p hp with ⟨y, hy, h1⟩ | ⟨y, o, q, hq, hy, h1, _, _, _⟩ | ⟨n, h1, h2⟩
  · obtain ⟨op, z, w, r, hf, _, _⟩ := formI hy
    exact ⟨op, z, w, r, by rw [clsAt_of h1]; exact hf.al false l p h1⟩
  · obtain ⟨op, z, w, r, hf, _⟩ := formJ (o := o) hy
    exact ⟨op, z, w, r, by rw [clsAt_of h1]; exact hf.al false l p h1⟩
  · refine ⟨0, 0, false, false, ?_⟩
    rw [clsAt_of h1, show clsI (iConst n).op = 10 by rfl]
    have := hS.most
    exact fm_const.2.2 false l p h1 h2 (last_room hS h1 hp) (by omega)
end
end Go.Proofs.YtipdeijgaabobaaGreatDoor
/-
  VCheck4: shape.Check finds nothing wrong in the code of a table.
-/
namespace Go.Proofs.YtipdeijgaabobaaGreatDoor
open Go Go.DI Go.DI.Kit Go.Proofs Go.Cmp Go.RowKit
noncomputable section
theorem gl_ok : okB (.cells false gl) ∧ ∀ nb, seenB nb (.cells false gl) := by
  constructor
  · intro v hv
    simp only [gl, List.mem_cons, List.not_mem_nil, or_false] at hv
    rcases hv with rfl | rfl | rfl | rfl <;> rfl
  · intro nb v hv
    simp only [gl, List.mem_cons, List.not_mem_nil, or_false] at hv
    rcases hv with rfl | rfl | rfl | rfl <;> rfl
theorem cut_pre {B0 : Nat} {w0 W : World} {ι ι' : Ren} {ss ex : List Blk} (hs : Go.DI.St B0 w0 ι' (mS gl (ss ++ ex)) W) (hok : ∀ s ∈ ss, okB s ∧ seenB (1 + ss.length) s) (he : ∀ b, b < 1 + ss.length → ι' b = ι b) (hf : ∀ b, 1 + ss.length ≤ b → ι b = none) : Go.DI.St B0 w0 ι (mS gl ss) W := by
  have h := hs.cut (z := 1 + ss.length) (by rw [mS_size, List.length_append]; omega) (by omega) (mz := mS gl ss) (mS_size ss) (top_mS ss) (fun b hb => ?_) (fun b hb => ?_)
  · rw [sub_back hf he] at h; exact h
  · rw [mS_get, mS_get]
    by_cases h0 : b < 1
    · rw [if_pos h0, if_pos h0]
    · rw [if_neg h0, if_neg h0, List.getElem?_append_left (by omega)]
  · rw [mS_get]
    by_cases h0 : b < 1
    · obtain rfl : b = 0 := by omega
      rw [if_pos h0, mG_get]
      exact ⟨gl_ok.1, gl_ok.2 _⟩
    · rw [if_neg h0]
      have hb' : b - 1 < ss.length := by omega
      rw [List.getElem?_append_left hb', List.getElem?_eq_getElem hb']
      exact hok _ (List.getElem_mem hb')
theorem plain_blk {c : List Value} (o : Bool) (h : c.all plainV = true) (nb : Nat) : okB (.cells o c) ∧ seenB nb (.cells o c) := ⟨fun v hv => plain_ok (List.all_eq_true.1 h v hv), fun v hv => plain_seen (List.all_eq_true.1 h v hv)⟩
theorem slc_blk {v : Value} {nb : Nat} (h1 : okV v = true) (h2 : Go.DI.Kit.seenV nb v = true) : okB (.cells true [v]) ∧ seenB nb (.cells true [v]) := ⟨fun u hu => by obtain rfl := List.mem_singleton.1 hu; exact h1, fun u hu => by obtain rfl := List.mem_singleton.1 hu; exact h2⟩
theorem img_blk (n nb : Nat) (h : 2 ≤ nb) : okB (imgB n) ∧ seenB nb (imgB n) := by
  constructor
  · intro u hu
    have hu : u ∈ [Value.slice none 0 0, sliceN 1 n] := hu
    simp only [List.mem_cons, List.not_mem_nil, or_false] at hu
    rcases hu with rfl | rfl <;> rfl
  · intro u hu
    have hu : u ∈ [Value.slice none 0 0, sliceN 1 n] := hu
    simp only [List.mem_cons, List.not_mem_nil, or_false] at hu
    rcases hu with rfl | rfl
    · rfl
    · show Nat.blt 1 nb = true
      simp [Nat.blt_eq]; omega
/-- The boxes before the first loop, and before the second. -/
def ss3 (l : List Ins) (a c : Int) : List Blk := [.cells false (codeC l), imgB l.length, cI 0, cI 0, cI a, cI c, .cells true [sliceN 1 l.length]]
def ss5 (l : List Ins) (a c : Int) : List Blk := [.cells false (codeC l), imgB l.length, cI 0, cI 0, cI a, cI c, .cells true [sliceN 1 l.length], .cells true (boolsAt (startsL l) l.length), .cells true [slS (boolsAt (startsL l) l.length).length], .cells true [sliceN 1 l.length]]
theorem ss3_ok (l : List Ins) (a c : Int) : ∀ s ∈ ss3 l a c, okB s ∧ seenB (1 + (ss3 l a c).length) s := by
  intro s hs
  simp only [ss3, List.mem_cons, List.not_mem_nil, or_false] at hs
  rcases hs with rfl | rfl | rfl | rfl | rfl | rfl | rfl
  · exact plain_blk _ (codeC_plain l) _
  · exact img_blk _ _ (by show 2 ≤ 8; decide)
  · exact plain_blk _ rfl _
  · exact plain_blk _ rfl _
  · exact plain_blk _ rfl _
  · exact plain_blk _ rfl _
  · exact slc_blk rfl rfl
theorem ss5_ok (l : List Ins) (a c : Int) : ∀ s ∈ ss5 l a c, okB s ∧ seenB (1 + (ss5 l a c).length) s := by
  intro s hs
  simp only [ss5, List.mem_cons, List.not_mem_nil, or_false] at hs
  rcases hs with rfl | rfl | rfl | rfl | rfl | rfl | rfl | rfl | rfl | rfl
  · exact plain_blk _ (codeC_plain l) _
  · exact img_blk _ _ (by show 2 ≤ 11; decide)
  · exact plain_blk _ rfl _
  · exact plain_blk _ rfl _
  · exact plain_blk _ rfl _
  · exact plain_blk _ rfl _
  · exact slc_blk rfl rfl
  · exact bools_ok _ _ _
  · exact slc_blk rfl rfl
  · exact slc_blk rfl rfl
theorem ss3_cells (l : List Ins) (a c : Int) : ∀ s ∈ ss3 l a c, ∃ o c, s = .cells o c := by
  intro s hs
  simp only [ss3, List.mem_cons, List.not_mem_nil, or_false] at hs
  rcases hs with rfl | rfl | rfl | rfl | rfl | rfl | rfl <;> exact ⟨_, _, rfl⟩
theorem ss5_cells (l : List Ins) (a c : Int) : ∀ s ∈ ss5 l a c, ∃ o c, s = .cells o c := by
  intro s hs
  simp only [ss5, List.mem_cons, List.not_mem_nil, or_false] at hs
  rcases hs with rfl | rfl | rfl | rfl | rfl | rfl | rfl | rfl | rfl | rfl <;> exact ⟨_, _, rfl⟩
def lastA {l : List Ins} (pre : List (Pl l)) : Int := match pre.getLast? with | some x => (x.1 : Int) | none => 0
def lastC {l : List Ins} (pre : List (Pl l)) : Int := match pre.getLast? with | some x => clsAt l x.1 | none => 0
theorem lastA_snoc {l : List Ins} (pre : List (Pl l)) (x : Pl l) : lastA (pre ++ [x]) = (x.1 : Int) := by unfold lastA; rw [List.getLast?_append]; rfl
theorem lastC_snoc {l : List Ins} (pre : List (Pl l)) (x : Pl l) : lastC (pre ++ [x]) = clsAt l x.1 := by unfold lastC; rw [List.getLast?_append]; rfl
theorem eq0_of {n : Nat} (h : 0 < n) : eq0 n := by unfold eq0; simp [binD, binInt, shiftB]; omega
theorem gt3_of {a b : Int} (h : a ≤ b) : gt3 a b := by unfold gt3; simp [binD, binInt, shiftB]; omega
theorem ne3_t {a b : Int} (h : a ≠ b) : ne3 a b true := by unfold ne3; simp [binD, binInt, shiftB]; omega
theorem ne3_f {a b : Int} (h : a = b) : ne3 a b false := by unfold ne3; simp [binD, binInt, shiftB]; omega
theorem Wv_plain (c op z : Int) (w r : Bool) : (Wv c op z w r).all plain0 = true := rfl
theorem oC_al {l : List Ins} {own : Bool} {M : Mem} {p : Int} {w : List Value} (ht : M.top) (h0 : M.get 0 = .cells false gl) (h1 : 1 < M.size) (gc : M.get 1 = .cells own (codeC l)) (h : AlRun own (codeC l) l.length p w) (hw : w.all plain0 = true) : oC l 67 [imgV (sliceN 1 l.length), .int .i64 p] M = some (outW w, M) :=
  oAlt_l (oSh_al ht h0 (by omega) h1 (by decide) gc h hw)
theorem oC_of {l : List Ins} {M : Mem} {x : Ins} {w : List Value} (ht : M.top) (h0 : M.get 0 = .cells false gl) (h1 : 1 ≤ M.size) (h : OfRun x w) (hw : w.all plain0 = true) : oC l 31 [.agg ⟨insC x⟩] M = some (outW w, M) :=
  oAlt_l (oSh_of ht h0 h1 h hw)
theorem oC_st {l : List Ins} {own : Bool} {M : Mem} (ht : M.top) (h0 : M.get 0 = .cells false gl) (h1 : 1 < M.size) (gc : M.get 1 = .cells own (codeC l)) : oC l 29 [sliceN 1 l.length] M = some (.slice (some ⟨M.size, 0, none⟩) l.length l.length, M.push (.cells true (boolsAt (startsL l) l.length))) := by
  unfold oC
  rw [oAlt_r (oSh_off (by decide) (by decide) (by decide) _ _)]
  exact if_pos ⟨rfl, rfl, ⟨own, gc⟩, fits1 ht h0 (by omega) h1 (by decide) gc⟩
end
end Go.Proofs.YtipdeijgaabobaaGreatDoor
/-
  VCheck5: shape.Check, whole.
-/
namespace Go.Proofs.YtipdeijgaabobaaGreatDoor
open Go Go.DI Go.DI.Kit Go.Proofs Go.Cmp Go.RowKit
noncomputable section
def aC1 : Oper := { dst := some 8, op := .assign (.tmp 48), type := 3, pos := "shape.go:94", after := #[], guard := none }
def aC2 : Oper := { dst := some 12, op := .assign (.tmp 68), type := 3, pos := "shape.go:102", after := #[], guard := none }
theorem aC1_eq : q45 13 = #[aC1] := by kernel_rfl
theorem aC2_eq : q45 20 = #[aC2] := by kernel_rfl
theorem mC3_at (l : List Ins) (a c : Int) : (mC3 (codeC l) l.length a c).get 0 = .cells false gl ∧ (mC3 (codeC l) l.length a c).get 1 = .cells false (codeC l) ∧ (mC3 (codeC l) l.length a c).get 7 = .cells true [sliceN 1 l.length] ∧ (mC3 (codeC l) l.length a c).size = 8 := ⟨by kernel_rfl, by kernel_rfl, by kernel_rfl, by kernel_rfl⟩
theorem mC5_at (l : List Ins) (a c : Int) (y : List Value) : (mC5 (codeC l) l.length a c y).get 0 = .cells false gl ∧ (mC5 (codeC l) l.length a c y).get 1 = .cells false (codeC l) ∧ (mC5 (codeC l) l.length a c y).get 10 = .cells true [sliceN 1 l.length] ∧ (mC5 (codeC l) l.length a c y).size = 11 := ⟨by kernel_rfl, by kernel_rfl, by kernel_rfl, by kernel_rfl⟩
section
variable {B0 : Nat} {w0 W : World} {ι : Ren} {l : List Ins} {x1 : Nat → Value} {a1 : Act}
/-- A round of the first loop. -/
theorem rnd1 (hS : ShapeOk l) (x : Pl l) {k d : Nat} {a c : Int} (hs : Go.DI.St B0 w0 ι (mC3 (codeC l) l.length a c) W) (ht : TRel ι 116 (fullN 116 (up x1 (knC ++ [(8, .int .i64 (x.1 : Int))]))) a1) {Q : Exit → Act → World → Prop} (hx : ¬ LetsOut Q)
    (hQ : ∀ a' W', Keeps W W' → Go.DI.St B0 w0 ι (mC3 (codeC l) l.length (x.1 : Int) (clsAt l x.1)) W' → Q .normal a' W') : b45_4.wpIn (FR k) d Tryz.prog Q a1 W := by
  obtain ⟨g0, g1, _, gz⟩ := mC3_at l a c
  obtain ⟨op, z, w, r, hal⟩ := round1 hS x.2
  have hrun := t_c4 x1 (oC l) (codeC l) l.length a c (x.1 : Int) (clsAt l x.1) op z w r
  refine st_pieceIn hmix hK hng (oC_ok hS B0) oC_grw hC_on hC_off (by kernel_rfl) hrun.1 hrun.2 (cons_p (oC_al (top_mS _) g0 (by rw [gz]; decide) g1 hal (Wv_plain ..)) nil_p) hs (mS_only (ss3_cells l a c)) ht hx fun ι5 a5 W5 t5 hs5 ht5 hv5 hd5 hk5 hkp5 => ?_
  exact hQ a5 W5 hkp5 (cut_pre (ss := ss3 l (x.1 : Int) (clsAt l x.1)) (ex := [.cells true (Wv (clsAt l x.1) op z w r)]) hs5 (ss3_ok l _ _) (fun b hb => hk5 b (by rw [gz]; exact hb)) (fun b hb => hs.fresh b (by rw [gz]; exact hb)))
/-- A round of the second loop. -/
theorem rnd2 (hS : ShapeOk l) (x : Pl l) {k d : Nat} {a c : Int} (hs : Go.DI.St B0 w0 ι (mC5 (codeC l) l.length a c (boolsAt (startsL l) l.length)) W) (ht : TRel ι 116 (fullN 116 (up x1 (knC ++ [(11, ptrV 9 0), (12, .int .i64 (x.1 : Int))]))) a1) {Q : Exit → Act → World → Prop} (hx : ¬ LetsOut Q)
    (hQ : ∀ a' W', Keeps W W' → Go.DI.St B0 w0 ι (mC5 (codeC l) l.length a c (boolsAt (startsL l) l.length)) W' → Q .normal a' W') : b45_6.wpIn (FR k) d Tryz.prog Q a1 W := by
  obtain ⟨g0, g1, _, gz⟩ := mC5_at l a c (boolsAt (startsL l) l.length)
  have hm := hS.most
  have hfin : ∀ (ex : List Blk) (ι5 : Ren) (a5 : Act) (W5 : World), Go.DI.St B0 w0 ι5 (mS gl (ss5 l a c ++ ex)) W5 → (∀ b, b < (mC5 (codeC l) l.length a c (boolsAt (startsL l) l.length)).size → ι5 b = ι b) → Keeps W W5 → Q .normal a5 W5 := fun ex ι5 a5 W5 hs5 hk5 hkp5 =>
    hQ a5 W5 hkp5 (cut_pre (ss := ss5 l a c) (ex := ex) hs5 (ss5_ok l _ _) (fun b hb => hk5 b (by rw [gz]; exact hb)) (fun b hb => hs.fresh b (by rw [gz]; exact hb)))
  have nojump : ∀ (y : Ins) (cl op z : Int) (w r : Bool), l[x.1]? = some y → OfRun y (Wv cl op z w r) → cl ≠ 6 → cl ≠ 7 → b45_6.wpIn (FR k) d Tryz.prog Q a1 W := fun y cl op z w r h1 hof n6 n7 => by
    have hrun := t_c6a x1 (oC l) (codeC l) (insC y) (boolsAt (startsL l) l.length) l.length a c (x.1 : Int) cl op z w r
    exact st_pieceIn hmix hK hng (oC_ok hS B0) oC_grw hC_on hC_off (by kernel_rfl) hrun.1 hrun.2 (cons_p (ixP_of h1) (cons_p (ldP_of h1) (cons_p (oC_of (top_mS _) g0 (by rw [gz]; decide) hof (Wv_plain ..)) (cons_p (ne3_t n6) (cons_p (ne3_t n7) nil_p))))) hs (mS_only (ss5_cells l a c)) ht hx fun ι5 a5 W5 t5 hs5 ht5 hv5 hd5 hk5 hkp5 => hfin [.cells true (Wv cl op z w r)] ι5 a5 W5 hs5 hk5 hkp5
  rcases hS.found x.1 x.2 with ⟨y, hy, h1⟩ | ⟨y, o, q, hq, hy, h1, ho1, ho2, hqe⟩ | ⟨n, h1, h2⟩
  · obtain ⟨op, z, w, r, hf, n6, n7⟩ := formI hy
    exact nojump y _ op z w r h1 hf.of n6 n7
  · obtain ⟨op, z, w, r, hf, h67⟩ := formJ (o := o) hy
    have hql : q < l.length := starts_lt hq
    have hpl : x.1 < l.length := starts_lt x.2
    have ht0 : tgt (x.1 : Int) o = (q : Int) := by
      unfold tgt
      have e1 : IntKind.wrap .i64 (Int.add (x.1 : Int) 1) = ((x.1 + 1 : Nat) : Int) := up_nat (by omega)
      have e2 : IntKind.wrap .i64 o = o := wrap_i64 ⟨by omega, by omega⟩
      rw [e1, e2]
      have e3 : Int.add ((x.1 + 1 : Nat) : Int) o = (q : Int) := by
        show ((x.1 + 1 : Nat) : Int) + o = q
        omega
      rw [e3]
      exact wrap_i64 ⟨by omega, by omega⟩
    have hy' : insC (offS y o) = insW (offS y o).op (offS y o).dst (offS y o).src o (offS y o).imm := rfl
    have hixp := ixP_of h1
    have hldp := ldP_of h1
    have hofr : OfRun (offS y o) (Wv (clsI (offS y o).op) op z w r) := hf.of
    have hcall := oC_of (l := l) (M := mC5 (codeC l) l.length a c (boolsAt (startsL l) l.length)) (top_mS _) g0 (by rw [gz]; decide) hofr (Wv_plain ..)
    rw [hy'] at hldp hcall
    have hlen : (boolsAt (startsL l) l.length).length = l.length := boolsAt_len _ _
    have tail : ∀ q' ∈ [ixP (x.1 : Int) l.length, ldP (codeC l) (x.1 : Int) (insW (offS y o).op (offS y o).dst (offS y o).src o (offS y o).imm), ls3 (tgt (x.1 : Int) o), ge3 (tgt (x.1 : Int) o) (boolsAt (startsL l) l.length).length, ixP (tgt (x.1 : Int) o) (boolsAt (startsL l) l.length).length, qB (boolsAt (startsL l) l.length) (tgt (x.1 : Int) o)], q' := by
      refine cons_p hixp (cons_p hldp (cons_p ?_ (cons_p ?_ (cons_p ?_ (cons_p ?_ nil_p)))))
      · rw [ht0]; unfold ls3; simp [binD, binInt, shiftB] <;> omega
      · rw [ht0, hlen]; unfold ge3; simp [binD, binInt, shiftB] <;> omega
      · rw [ht0, hlen]; exact ⟨by omega, by omega⟩
      · rw [ht0]
        show H.blkNth (.cells true (boolsAt (startsL l) l.length)) (Nat.add 0 (Nat.mul (q : Int).toNat 1)) = some (.bool true)
        have e : Nat.add 0 (Nat.mul (q : Int).toNat 1) = q := by
          show 0 + (q : Int).toNat * 1 = q
          simp
        rw [e]
        show (boolsAt (startsL l) l.length)[q]? = _
        rw [boolsAt_get, if_pos hql]
        simp [hq]
    rcases h67 with h6 | h7
    · have hrun := t_c6b x1 (oC l) (codeC l) (boolsAt (startsL l) l.length) l.length a c (x.1 : Int) (clsI (offS y o).op) op z (offS y o).op (offS y o).dst (offS y o).src o (offS y o).imm w r
      exact st_pieceIn hmix hK hng (oC_ok hS B0) oC_grw hC_on hC_off (by kernel_rfl) hrun.1 hrun.2 (cons_p hixp (cons_p hldp (cons_p hcall (cons_p (ne3_f h6) tail)))) hs (mS_only (ss5_cells l a c)) ht hx fun ι5 a5 W5 t5 hs5 ht5 hv5 hd5 hk5 hkp5 => hfin [.cells true (Wv (clsI (offS y o).op) op z w r), .cells true (insW (offS y o).op (offS y o).dst (offS y o).src o (offS y o).imm)] ι5 a5 W5 hs5 hk5 hkp5
    · have hrun := t_c6c x1 (oC l) (codeC l) (boolsAt (startsL l) l.length) l.length a c (x.1 : Int) (clsI (offS y o).op) op z (offS y o).op (offS y o).dst (offS y o).src o (offS y o).imm w r
      exact st_pieceIn hmix hK hng (oC_ok hS B0) oC_grw hC_on hC_off (by kernel_rfl) hrun.1 hrun.2 (cons_p hixp (cons_p hldp (cons_p hcall (cons_p (ne3_t (by rw [h7]; decide)) (cons_p (ne3_f h7) tail))))) hs (mS_only (ss5_cells l a c)) ht hx fun ι5 a5 W5 t5 hs5 ht5 hv5 hd5 hk5 hkp5 => hfin [.cells true (Wv (clsI (offS y o).op) op z w r), .cells true (insW (offS y o).op (offS y o).dst (offS y o).src o (offS y o).imm)] ι5 a5 W5 hs5 hk5 hkp5
  · exact nojump _ 10 0 0 false false h1 fm_const.1 (by decide) (by decide)
end
end
end Go.Proofs.YtipdeijgaabobaaGreatDoor
