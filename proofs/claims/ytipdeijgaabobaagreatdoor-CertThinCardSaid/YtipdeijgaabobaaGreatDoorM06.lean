/- The law CertThin: the interpreter, the contracts, the law. -/
import Derived.Test.YtipdeijgaabobaaGreatDoorM05
import Derived.Test.YtipdeijgaabobaaGreatDoorM04
import Derived.Test.YtipdeijgaabobaaGreatDoorM03
import Derived.Carry
import Derived.ChangeArms
import Derived.OpenShut
import Derived.ChangeShapes
import Derived.Test.YtipdeijgaabobaaGreatDoorRows
set_option linter.all false
set_option linter.unusedVariables false
set_option linter.unusedSimpArgs false
/-
  VCheck6: shape.Check: from start to end; and on any memory.
-/
namespace Go.Proofs.YtipdeijgaabobaaGreatDoor
open Go Go.DI Go.DI.Kit Go.Proofs Go.Cmp Go.RowKit
noncomputable section
theorem all_cells {ss : List Blk} (h : ss.all (fun b => match b with | .cells _ _ => true | _ => false) = true) : ∀ s ∈ ss, ∃ o c, s = Blk.cells o c := by
  intro s hs
  have := List.all_eq_true.1 h s hs
  cases s <;> simp at this
  exact ⟨_, _, rfl⟩
theorem check_ok {B0 : Nat} {own : Bool} {l : List Ins} (hS : ShapeOk l) : CallOK Tryz.prog B0 1 28 [imgV (sliceN 1 l.length)] (mS gl [.cells own (codeC l)]) (.tuple ⟨[.int .i64 0, .int .i64 0]⟩) (mS gl [.cells own (codeC l)]) := by
  intro ι w args' hr hf hargs
  have hm := hS.most
  have hpos : 0 < l.length := List.length_pos_iff.2 hS.pos
  obtain ⟨ι0, hι0⟩ : ∃ ι0, (ι.sub id fun i => Nat.blt i (1 + [Blk.cells false (codeC l)].length)) = ι0 := ⟨_, rfl⟩
  have hno : ∀ b, 2 ≤ b → ι0 b = none := fun b hb => by
    rw [← hι0]
    show (if Nat.blt b 2 = true then ι b else none) = none
    rw [if_neg (by simp [Nat.blt_eq]; omega)]
  have hr0 : Rel B0 1 ι0 (mC0 (codeC l)) w := by
    rw [← hι0]
    exact rel_cut (rel_weak hr) (fun s hs => by obtain rfl := List.mem_singleton.1 hs; exact plain_blk _ (codeC_plain l) _)
  have hs0 : Go.DI.St B0 w ι0 (mC0 (codeC l)) w := ⟨hr0, fun b hb => hno b hb, Below.refl _ _, fun b L hL ho => by
    exfalso
    unfold mC0 at ho
    rw [mS_get] at ho
    split at ho
    · rename_i h0
      obtain rfl : b = 0 := by omega
      rw [mG_get] at ho; cases ho
    · rcases hj : b - 1 with _ | j
      · rw [hj] at ho; cases ho
      · rw [hj] at ho
        have ho : ((mG gl).get b).own = true := ho
        rw [mG_top gl b (by rw [mG_size]; omega)] at ho; cases ho⟩
  have hargs0 : VRels ι0 [imgV (sliceN 1 l.length)] args' := by
    cases hargs with
    | cons h t =>
      cases t
      refine .cons ?_ .nil
      have h1 : VSim id (fun i => Nat.blt i 2) (imgV (sliceN 1 l.length)) (imgV (sliceN 1 l.length)) := sim_agg (.cons ((free_slc0 _ _).sim _ _) (.cons (sim_slc (ρ := id) (i := 1) rfl) .nil))
      rw [← hι0]
      exact h1 ι _ h
  have hst := start_rel (nt := 116) hargs0
  have e0 : fullN 116 (argX [imgV (sliceN 1 l.length)]) = fullN 116 (up (argX [imgV (sliceN 1 l.length)]) [(0, imgV (sliceN 1 l.length))]) := by rw [up_self _ _ (by intro q hq; obtain rfl := List.mem_singleton.1 hq; rfl)]
  have hst : TRel ι0 116 (fullN 116 (up (argX [imgV (sliceN 1 l.length)]) [(0, imgV (sliceN 1 l.length))])) { tmps := args'.toArray ++ Array.replicate (Tryz.f28.ntmps - args'.toArray.size) undef, defers := [] } := by
    rw [← e0]; exact hst
  refine (callsIn_wide (n := 1)).1 (callsIn_of_wp_marks at45 bd45 trivial ?_ rfl)
  rw [c45_eq]
  refine wpIn_seq (st_piece hmix hK hng (oC_ok hS B0) oC_grw hC_on hC_off (t_c0 _ (oC l) (codeC l) l.length).1 (t_c0 _ (oC l) (codeC l) l.length).2 nil_p hs0 (mS_only (all_cells rfl)) hst fun ι1 a1 W1 t1 hs1 ht1 hv1 hd1 _ hkp1 => ?_)
  simp only [Ex.to, Exit.then]
  obtain ⟨x1, hx1⟩ := ht1.full _ (at_of hv1)
  refine wpIn_seq (st_piece hmix hK hng (oC_ok hS B0) oC_grw hC_on hC_off (t_cb0 x1 (oC l) (codeC l) l.length).1 (t_cb0 x1 (oC l) (codeC l) l.length).2 (cons_p (eq0_of hpos) (cons_p (gt3_of (by show (l.length : Int) ≤ 512; omega)) (cons_p (gt3_of (by decide)) nil_p))) hs1 (mS_only (all_cells rfl)) hx1 fun ι2 a2 W2 t2 hs2 ht2 hv2 hd2 _ hkp2 => ?_)
  simp only [Ex.to, Exit.then]
  obtain ⟨x2, hx2⟩ := ht2.full _ (at_of hv2)
  refine wpIn_seq (st_piece hmix hK hng (oC_ok hS B0) oC_grw hC_on hC_off (t_cb1 x2 (oC l) (codeC l) l.length).1 (t_cb1 x2 (oC l) (codeC l) l.length).2 nil_p hs2 (mS_only (all_cells rfl)) hx2 fun ι3 a3 W3 t3 hs3 ht3 hv3 hd3 _ hkp3 => ?_)
  simp only [Ex.to, Exit.then]
  obtain ⟨x3, hx3⟩ := ht3.full _ (at_of hv3)
  refine wpIn_seq (st_piece hmix hK hng (oC_ok hS B0) oC_grw hC_on hC_off (t_c11 x3 (oC l) (codeC l) l.length).1 (t_c11 x3 (oC l) (codeC l) l.length).2 nil_p hs3 (mS_only (all_cells rfl)) hx3 fun ι4 a4 W4 t4 hs4 ht4 hv4 hd4 _ hkp4 => ?_)
  simp only [Ex.to, Exit.then]
  obtain ⟨x4, hx4⟩ := ht4.full knC (at_of hv4)
  refine wpIn_seq (wpIn_seq (st_piece hmix hK hng (oC_ok hS B0) oC_grw hC_on hC_off (t_c12 x4 (oC l) (codeC l) l.length 0 0).1 (t_c12 x4 (oC l) (codeC l) l.length 0 0).2 nil_p hs4 (mS_only (all_cells rfl)) hx4 fun ι5 a5 W5 t5 hs5 ht5 hv5 hd5 _ hkp5 => ?_))
  simp only [Ex.to, Exit.then]
  have hat5 := at_of hv5
  have h47 : t5.at 47 = cl93 7 := hat5 (47, cl93 7) (by simp [vsC])
  have hkn5 : ∀ p ∈ knC, t5.at p.1 = p.2 := fun p hp => hat5 p (by
    simp only [knC, List.mem_cons, List.not_mem_nil, or_false] at hp
    rcases hp with rfl | rfl | rfl | rfl | rfl <;> simp [vsC])
  obtain ⟨Lb, hLb, hfun⟩ := clos_at ht5 h47
  have hrel93 : ∀ (a c : Int) (W : World), Go.DI.St B0 w ι5 (mC3 (codeC l) l.length a c) W → Rel B0 1 (i93 ι5 7) (m93 (codeC l) l.length) W := fun a c W h => by
    obtain ⟨g0, g1, g7, gz⟩ := mC3_at l a c
    exact rel93 h (by rw [gz]; decide) (by rw [gz]; decide) (by decide) g0 g1 g7
  have hi2 : i93 ι5 7 2 = some Lb := by rw [i93_at ι5 7 2 (by decide)]; exact hLb
  have hsz5 : ∀ p, p < 116 → p < a5.tmps.size := fun p hp => by rw [ht5.1]; exact hp
  refine wpIn_block (range_di (m0 := mC3 (codeC l) l.length 0 0) (ι := ι5) hs5 (Ds := []) (fun D hD => by simp at hD) (by decide) hfun (enters_of at93 (by kernel_rfl) bd93) (iter_stops (hrel93 0 0 W5 hs5) hi2 hS) (fun h k => kpI_t h k) (fun W k o o' _ hk hno' _ => kpI_b W k o o' hk hno') (fun x => rfl)
    (fun pre => mC3 (codeC l) l.length (lastA pre) (lastC pre)) rfl (fun pre b hb => mS_cells (ss3_cells l _ _) b hb)
    (fun x => ({ tmps := a5.tmps.setIfInBounds 48 (.int .i64 (x.1 : Int)), defers := [] } : Act).put (some 8) (.int .i64 (x.1 : Int))) ?_ ?_ (fun pre W W' h _ => hrel93 _ _ W' h) ?_)
  · intro k x W K' hK'
    rw [aC1_eq]
    refine assign_one (op := aC1) (x := .tmp 48) rfl rfl ?_
    have ez : ((#[48] : Array Tmp).zip (encP l x)).foldl (fun t (p, v) => t.setIfInBounds p v) a5.tmps = a5.tmps.setIfInBounds 48 (.int .i64 (x.1 : Int)) := by simp [encP]
    rw [ez]
    have : ({ tmps := a5.tmps.setIfInBounds 48 (.int .i64 (x.1 : Int)), defers := [] } : Act).eval (.tmp 48) = .int .i64 (x.1 : Int) := by
      show (a5.tmps.setIfInBounds 48 (.int .i64 (x.1 : Int))).getD 48 undef = _
      rw [getD_setIfInBounds, if_pos ⟨rfl, hsz5 48 (by decide)⟩]
    rw [this]
    exact hK'
  · intro k pre x W Q' hx' hst' hQ'
    have ht6 : TRel ι5 116 ((t5.set 48 (.int .i64 (x.1 : Int))).set 8 (.int .i64 (x.1 : Int))) ((({ tmps := a5.tmps.setIfInBounds 48 (.int .i64 (x.1 : Int)), defers := [] } : Act)).put (some 8) (.int .i64 (x.1 : Int))) :=
      TRel.putD (n := 116) (dst := some 8) (TRel.setI (N := 116) ht5 (by decide) (.int _ _)) rfl (.int _ _)
    obtain ⟨x6, hx6⟩ := ht6.full (knC ++ [(8, .int .i64 (x.1 : Int))]) (by
      intro q hq
      rcases List.mem_append.1 hq with hq | hq
      · have hne : q.1 ≠ 8 ∧ q.1 ≠ 48 := by
          simp only [knC, List.mem_cons, List.not_mem_nil, or_false] at hq
          rcases hq with rfl | rfl | rfl | rfl | rfl <;> exact ⟨by simp, by simp⟩
        rw [Tmps.at_set_ne _ hne.1, Tmps.at_set_ne _ hne.2]
        exact hkn5 q hq
      · obtain rfl := List.mem_singleton.1 hq
        exact Tmps.at_set_same _ _ _)
    refine rnd1 hS x hst' hx6 hx' fun a' W' hk hst2 => hQ' a' W' hk ?_
    rw [lastA_snoc, lastC_snoc]
    exact hst2
  · intro D1 xs W hD1 hxs hst' hmk
    have hxs : xs.map Subtype.val = startsL l := hxs
    obtain ⟨init, pz, hl1, hl2⟩ := hS.last
    have hlast : ∃ a, lastC xs = 9 ∧ lastA xs = a := by
      refine ⟨_, ?_, rfl⟩
      have hxs2 := hxs.trans hl1
      have hne : xs ≠ [] := by rintro rfl; simp at hxs2
      obtain ⟨ys, z, rfl⟩ : ∃ ys z, xs = ys ++ [z] := ⟨xs.dropLast, xs.getLast hne, (List.dropLast_concat_getLast hne).symm⟩
      rw [lastC_snoc]
      rw [List.map_append] at hxs2
      have hz : z.1 = pz := by
        have := congrArg List.getLast? hxs2
        rw [List.getLast?_append, List.getLast?_append] at this
        simpa using this
      rw [hz, clsAt_of hl2]; rfl
    obtain ⟨aa, hc9, haa⟩ := hlast
    rw [hc9, haa] at hst'
    simp only [Exit.inBlock, Exit.then]
    have ht7 : TRel ι5 116 t5 { a5 with defers := { target := .collected D1, args := #[] } :: a5.defers } := ht5
    obtain ⟨x7, hx7⟩ := ht7.full knC hkn5
    obtain ⟨g30, g31, g37, g3z⟩ := mC3_at l aa 9
    have hylen : (boolsAt (startsL l) l.length).length = l.length := boolsAt_len _ _
    have hst69 : oC l 29 [sliceN 1 l.length] (mC3 (codeC l) l.length aa 9) = some (slS (boolsAt (startsL l) l.length).length, (mC3 (codeC l) l.length aa 9).push (.cells true (boolsAt (startsL l) l.length))) := by
      rw [oC_st (own := false) (M := mC3 (codeC l) l.length aa 9) (top_mS _) g30 (by rw [g3z]; decide) g31, g3z, hylen]; rfl
    refine wpIn_seq (st_piece hmix hK hng (oC_ok hS B0) oC_grw hC_on hC_off (t_c18 x7 (oC l) (codeC l) (boolsAt (startsL l) l.length) l.length aa 9).1 (t_c18 x7 (oC l) (codeC l) (boolsAt (startsL l) l.length) l.length aa 9).2 (cons_p hst69 nil_p) hst' (mS_only (ss3_cells l aa 9)) hx7 fun ι8 a8 W8 t8 hs8 ht8 hv8 hd8 _ hkp8 => ?_)
    simp only [Ex.to, Exit.then]
    obtain ⟨x8, hx8⟩ := ht8.full (knC ++ [(11, ptrV 9 0)]) (at_of hv8)
    refine wpIn_seq (wpIn_seq (st_piece hmix hK hng (oC_ok hS B0) oC_grw hC_on hC_off (t_c19 x8 (oC l) (codeC l) (boolsAt (startsL l) l.length) l.length aa 9).1 (t_c19 x8 (oC l) (codeC l) (boolsAt (startsL l) l.length) l.length aa 9).2 nil_p hs8 (mS_only (all_cells rfl)) hx8 fun ι9 a9 W9 t9 hs9 ht9 hv9 hd9 _ hkp9 => ?_))
    simp only [Ex.to, Exit.then]
    have hat9 := at_of hv9
    have h67 : t9.at 67 = cl93 10 := hat9 (67, cl93 10) (by simp [vsC])
    have hkn9 : ∀ p ∈ knC ++ [(11, ptrV 9 0)], t9.at p.1 = p.2 := fun p hp => hat9 p (by
      simp only [knC, List.cons_append, List.nil_append, List.mem_cons, List.not_mem_nil, or_false] at hp
      rcases hp with rfl | rfl | rfl | rfl | rfl | rfl <;> simp [vsC])
    obtain ⟨Lb9, hLb9, hfun9⟩ := clos_at ht9 h67
    have hrel9 : ∀ (W : World), Go.DI.St B0 w ι9 (mC5 (codeC l) l.length aa 9 (boolsAt (startsL l) l.length)) W → Rel B0 1 (i93 ι9 10) (m93 (codeC l) l.length) W := fun W h => by
      obtain ⟨g0, g1, g7, gz⟩ := mC5_at l aa 9 (boolsAt (startsL l) l.length)
      exact rel93 h (by rw [gz]; decide) (by rw [gz]; decide) (by decide) g0 g1 g7
    have hi9 : i93 ι9 10 2 = some Lb9 := by rw [i93_at ι9 10 2 (by decide)]; exact hLb9
    have hsz9 : ∀ p, p < 116 → p < a9.tmps.size := fun p hp => by rw [ht9.1]; exact hp
    have hmk9 : Marks [D1] W9 := (hmk.keeps hkp8).keeps hkp9
    refine wpIn_block (range_di (m0 := mC5 (codeC l) l.length aa 9 (boolsAt (startsL l) l.length)) (ι := ι9) hs9 (Ds := [D1]) hmk9 (by decide) hfun9 (enters_of at93 (by kernel_rfl) bd93) (iter_stops (hrel9 W9 hs9) hi9 hS) (fun h k => kpI_t h k) (fun W k o o' _ hk hno' _ => kpI_b W k o o' hk hno') (fun x => rfl)
      (fun _ => mC5 (codeC l) l.length aa 9 (boolsAt (startsL l) l.length)) rfl (fun pre b hb => mS_cells (ss5_cells l _ _) b hb)
      (fun x => ({ tmps := a9.tmps.setIfInBounds 68 (.int .i64 (x.1 : Int)), defers := [] } : Act).put (some 12) (.int .i64 (x.1 : Int))) ?_ ?_ (fun pre W W' h _ => hrel9 W' h) ?_)
    · intro k x W K' hK'
      rw [aC2_eq]
      refine assign_one (op := aC2) (x := .tmp 68) rfl rfl ?_
      have ez : ((#[68] : Array Tmp).zip (encP l x)).foldl (fun t (p, v) => t.setIfInBounds p v) a9.tmps = a9.tmps.setIfInBounds 68 (.int .i64 (x.1 : Int)) := by simp [encP]
      rw [ez]
      have : ({ tmps := a9.tmps.setIfInBounds 68 (.int .i64 (x.1 : Int)), defers := [] } : Act).eval (.tmp 68) = .int .i64 (x.1 : Int) := by
        show (a9.tmps.setIfInBounds 68 (.int .i64 (x.1 : Int))).getD 68 undef = _
        rw [getD_setIfInBounds, if_pos ⟨rfl, hsz9 68 (by decide)⟩]
      rw [this]
      exact hK'
    · intro k pre x W Q' hx' hst2 hQ'
      have ht6 : TRel ι9 116 ((t9.set 68 (.int .i64 (x.1 : Int))).set 12 (.int .i64 (x.1 : Int))) ((({ tmps := a9.tmps.setIfInBounds 68 (.int .i64 (x.1 : Int)), defers := [] } : Act)).put (some 12) (.int .i64 (x.1 : Int))) :=
        TRel.putD (n := 116) (dst := some 12) (TRel.setI (N := 116) ht9 (by decide) (.int _ _)) rfl (.int _ _)
      obtain ⟨x6, hx6⟩ := ht6.full (knC ++ [(11, ptrV 9 0), (12, .int .i64 (x.1 : Int))]) (by
        intro q hq
        have hq : q ∈ (knC ++ [(11, ptrV 9 0)]) ++ [(12, .int .i64 (x.1 : Int))] := by simpa using hq
        rcases List.mem_append.1 hq with hq | hq
        · have hne : q.1 ≠ 12 ∧ q.1 ≠ 68 := by
            simp only [knC, List.cons_append, List.nil_append, List.mem_cons, List.not_mem_nil, or_false] at hq
            rcases hq with rfl | rfl | rfl | rfl | rfl | rfl <;> exact ⟨by simp, by simp⟩
          rw [Tmps.at_set_ne _ hne.1, Tmps.at_set_ne _ hne.2]
          exact hkn9 q hq
        · obtain rfl := List.mem_singleton.1 hq
          exact Tmps.at_set_same _ _ _)
      exact rnd2 hS x hst2 hx6 hx' hQ'
    · intro D2 xs2 W' hD2 _ hst2 hmk2
      simp only [Exit.inBlock, Exit.then]
      have ht10 : TRel ι9 116 t9 { a9 with defers := { target := .collected D2, args := #[] } :: a9.defers } := ht9
      obtain ⟨x10, hx10⟩ := ht10.full knC (fun p hp => hkn9 p (List.mem_append_left _ hp))
      refine wpIn_seq (st_piece hmix hK hng (oC_ok hS B0) oC_grw hC_on hC_off (t_ce x10 (oC l) (codeC l) (boolsAt (startsL l) l.length) l.length aa).1 (t_ce x10 (oC l) (codeC l) (boolsAt (startsL l) l.length) l.length aa).2 (cons_p (ne3_t (by decide)) nil_p) hst2 (mS_only (ss5_cells l _ _)) hx10 fun ι11 a11 W11 t11 hs11 ht11 hv11 hd11 _ hkp11 => ?_)
      simp only [Ex.to, Exit.then]
      obtain ⟨x11, hx11⟩ := ht11.full knC (at_of hv11)
      refine wpIn_seq (st_piece hmix hK hng (oC_ok hS B0) oC_grw hC_on hC_off (t_c28 x11 (oC l) (codeC l) (boolsAt (startsL l) l.length) l.length aa 9).1 (t_c28 x11 (oC l) (codeC l) (boolsAt (startsL l) l.length) l.length aa 9).2 nil_p hs11 (mS_only (ss5_cells l _ _)) hx11 fun ι12 a12 W12 t12 hs12 ht12 hv12 hd12 _ hkp12 => ?_)
      simp only [Ex.to, Exit.then]
      refine wpIn_ret ?_
      have hmk12 : Marks [D2, D1] W12 := (hmk2.keeps hkp11).keeps hkp12
      have hde : a12.defers = [{ target := .collected D2, args := #[] }, { target := .collected D1, args := #[] }] := by
        rw [hd12, hd11]
        show _ :: a9.defers = _
        rw [hd9, hd8]
        show _ :: _ :: a5.defers = _
        rw [hd5, hd4, hd3, hd2, hd1]
      have hm2 := hmk12 D2 (by simp)
      have hm1 := hmk12 D1 (by simp)
      have hD1lt : D1 < W9.heap.size := (Array.getElem?_eq_some_iff.1 (hmk9 D1 (by simp))).1
      have hne : D1 ≠ D2 := by omega
      obtain ⟨W13, hW13⟩ : ∃ W13, W12.putObj D2 (.deferred none) = W13 := ⟨_, rfl⟩
      have hm1' : W13.heap[D1]? = some (.deferred (some [])) := by rw [← hW13]; exact (World.putObj_heap_other hne).trans hm1
      obtain ⟨W14, hW14⟩ : ∃ W14, W13.putObj D1 (.deferred none) = W14 := ⟨_, rfl⟩
      have hs13 : Go.DI.St B0 w ι12 (mC5 (codeC l) l.length aa 9 (boolsAt (startsL l) l.length)) W13 := by
        rw [← hW13]
        exact hs12.grown (fun b hb => mS_cells (ss5_cells l _ _) b hb) (B := w.heap.size) (Nat.le_refl _) (grownBy_putObj' W12 D2 _) (fun r e => by
          cases e
          exact ⟨Nat.le_trans hs9.below.size hD2, _, hm2, rfl⟩)
      have hs14 : Go.DI.St B0 w ι12 (mC5 (codeC l) l.length aa 9 (boolsAt (startsL l) l.length)) W14 := by
        rw [← hW14]
        exact hs13.grown (fun b hb => mS_cells (ss5_cells l _ _) b hb) (B := w.heap.size) (Nat.le_refl _) (grownBy_putObj' W13 D1 _) (fun r e => by
          cases e
          exact ⟨Nat.le_trans hs5.below.size hD1, _, hm1', rfl⟩)
      obtain ⟨x12, hx12⟩ := ht12.full [(2, ptrV 3 0), (3, ptrV 4 0)] (at_of hv12)
      have hres : resD Tryz.prog (fullN 116 (up x12 [(2, ptrV 3 0), (3, ptrV 4 0)])) (mC5 (codeC l) l.length aa 9 (boolsAt (startsL l) l.length)) Tryz.f28.results.toList = some [.int .i64 0, .int .i64 0] := by kernel_rfl
      obtain ⟨v', q1, q2⟩ := results_ok (P := Tryz.prog) hs14.rel hx12 hres
      show LeavesInM Fence.wide 1 Tryz.prog Tryz.f28 a12.tmps _ a12.defers .returning W12
      rw [hde]
      refine ⟨by simp, .inl ⟨D2, W13, rfl, by rw [← hW13]; exact run_takeDeferred hm2, by simp, .inl ⟨D1, W14, rfl, by rw [← hW14]; exact run_takeDeferred hm1', v', q1, ?_⟩⟩⟩
      have hb14 : Below w.heap.size w W14 := hs14.below
      refine ⟨v', ι, rfl, ?_, rel_below hr hb14, ⟨fun _ _ h => h, fun _ _ => rfl, hb14.os, hb14.output, hb14.tape, hb14.size, fun B hB _ => hb14.block B hB, fun b L h1 h2 => by omega, Nat.le_refl _, fun b _ h => h⟩⟩
      have hfree : Free (.tuple ⟨[.int .i64 0, .int .i64 0]⟩) := free_tuple (by
        intro x hx
        have hx : x ∈ [Value.int .i64 0, Value.int .i64 0] := hx
        simp only [List.mem_cons, List.not_mem_nil, or_false] at hx
        rcases hx with rfl | rfl <;> exact free_int _ _)
      exact hfree _ _ _ q2

end
end Go.Proofs.YtipdeijgaabobaaGreatDoor
/-
  FWake: what the chapter's statements ask first: some rows of the chapter, worked out.
-/
namespace Go.Proofs.YtipdeijgaabobaaGreatDoor
open Go Go.DI Go.DI.Kit Go.Proofs Go.Cmp Go.RowKit
noncomputable section
theorem starts_at {B0 : Nat} {own : Bool} {l : List Ins} (hS : ShapeOk l) {M : Mem} {b : Nat} (g1 : M.get b = .cells own (codeC l)) (hF : Fits gl [b] [M.get b] M) :
    CallOK Tryz.prog B0 1 29 [sliceN b l.length] M (.slice (some ⟨M.size, 0, none⟩) l.length l.length) (M.push (.cells true (boolsAt (startsL l) l.length))) := by
  have hcp : ∀ o : Bool, okB (.cells o (codeC l)) ∧ ∀ nb, seenB nb (.cells o (codeC l)) := fun o => ⟨fun v hv => plain_ok (List.all_eq_true.1 (codeC_plain l) v hv), fun nb v hv => plain_seen (List.all_eq_true.1 (codeC_plain l) v hv)⟩
  have h1 : b < M.size := hF.lt b (by simp)
  have hb0 : b ≠ 0 := fun e => hF.nz (by rw [e]; simp)
  have r0 : rhoE [b] M 0 = 0 := rfl
  have r1 : rhoE [b] M 1 = b := rfl
  have r2 : rhoE [b] M 2 = M.size := rfl
  have hA : ∀ i : Nat, Nat.blt i 2 = true → i = 0 ∨ i = 1 := fun i hi => by have : i < 2 := by simpa [Nat.blt_eq] using hi
                                                                            omega
  obtain ⟨ms, hms⟩ : ∃ ms, mS gl [.cells own (codeC l)] = ms := ⟨_, rfl⟩
  obtain ⟨ms', hms'⟩ : ∃ ms', mS gl [.cells own (codeC l), .cells true (boolsAt (startsL l) l.length)] = ms' := ⟨_, rfl⟩
  have s1 : ms.size = 2 := by rw [← hms, mS_size]; rfl
  have s2 : ms'.size = 3 := by rw [← hms', mS_size]; rfl
  have k0 : ms.get 0 = .cells false gl := by rw [← hms, mS_get, if_pos (by decide), mG_get]
  have k1 : ms.get 1 = .cells own (codeC l) := by rw [← hms, mS_get]; rfl
  have k0' : ms'.get 0 = .cells false gl := by rw [← hms', mS_get, if_pos (by decide), mG_get]
  have k1' : ms'.get 1 = .cells own (codeC l) := by rw [← hms', mS_get]; rfl
  have k2' : ms'.get 2 = .cells true (boolsAt (startsL l) l.length) := by rw [← hms', mS_get]; rfl
  have hsame : ∀ b, b < 2 → ms'.get b = ms.get b := fun b hb => by
    have : b = 0 ∨ b = 1 := by omega
    rcases this with rfl | rfl
    · rw [k0, k0']
    · rw [k1, k1']
  have hrun := starts_ok (B0 := B0) (own := own) hS
  rw [hms, hms'] at hrun
  refine embedG (ρ := rhoE [b] M) (A := fun i => Nat.blt i 2) 1 (fun g hg => ⟨hg, by obtain rfl : g = 0 := by omega
                                                                                     rfl, by obtain rfl : g = 0 := by omega
                                                                                             rfl⟩) hrun ⟨fun i hi => ?_, ⟨by omega, fun _ => by rw [← hms']; exact top_mS _, fun c hb hl => ?_, fun c hb ho => ?_⟩, by rw [← hms]; exact top_mS _, top_push hF.top, fun i hi => ?_, fun i j hi hj _ _ e => ?_, fun i q1 q2 => ?_, by show M.size + 1 = _; omega, fun i hi => ?_, fun i q1 q2 => ?_, fun c hb hne => ?_⟩ (.cons ?_ .nil) ?_
  · rcases hA i hi with rfl | rfl <;> omega
  · rw [hsame c (by omega)] at hl; exact hl
  · rw [hsame c (by omega)] at ho; exact ho
  · rcases hA i hi with rfl | rfl
    · rw [r0]; omega
    · rw [r1]; exact h1
  · rcases hA i hi with rfl | rfl <;> rcases hA j hj with rfl | rfl
    · rfl
    · rw [r0, r1] at e; omega
    · rw [r0, r1] at e; omega
    · rfl
  · obtain rfl : i = 2 := by omega
    rw [r2]; omega
  · rcases hA i hi with rfl | rfl
    · rw [k0, r0, hF.gl0]; exact bsim_free free_gl
    · rw [k1, r1]
      have h2 := bsim_ren (ρ := rhoE [b] M) (nb := 2) (hcp own).1 ((hcp own).2 2)
      have e : renB (rhoE [b] M) (.cells own (codeC l)) = M.get b := by
        rw [g1]
        show Blk.cells own _ = _
        rw [ren_plains (codeC_plain l)]
      rw [e] at h2
      exact h2
  · right
    have : i = 0 ∨ i = 1 ∨ i = 2 := by omega
    rcases this with rfl | rfl | rfl
    · rw [k0', r0, Mem.get_push_ne _ (by omega), hF.gl0]; exact bemb_free free_gl
    · rw [k1', r1, Mem.get_push_ne _ (by omega), g1]
      have h2 := bemb_ren (ρ := rhoE [b] M) (hcp own).1
      have e : renB (rhoE [b] M) (.cells own (codeC l)) = .cells own (codeC l) := by
        show Blk.cells own _ = _
        rw [ren_plains (codeC_plain l)]
      rw [e] at h2
      exact h2
    · rw [k2', r2, Mem.get_push_same]
      exact bemb_free fun v hv => by
        obtain ⟨i, _, rfl⟩ := List.mem_map.1 hv
        exact free_bool _
  · rw [Mem.get_push_ne _ (by omega)]
  · exact sim_slc (ρ := rhoE [b] M) (i := 1) rfl
  · show VEmb _ (.slice (some ⟨2, 0, none⟩) _ _) _
    have := emb_slc (ρ := rhoE [b] M) (i := 2) (o := 0) (n := l.length) (c := l.length)
    rw [r2] at this
    exact this

/-! ### two instructions -/
def lW : List Ins := [⟨183, 0, 0, 0, 7⟩, ⟨149, 0, 0, 0, 0⟩]
theorem lW_ok : ShapeOk lW where
  pos := by decide
  most := by decide
  found p hp := by
    have e : startsL lW = [0, 1] := by decide
    rw [e] at hp
    simp only [List.mem_cons, List.not_mem_nil, or_false] at hp
    rcases hp with rfl | rfl
    · exact .inl ⟨_, .movI (d := 0) (n := 7) ⟨by decide, by decide⟩, rfl⟩
    · exact .inl ⟨_, .exit, rfl⟩
  last := ⟨[0], 1, by decide, rfl⟩
def vEqI : Value → Value → Bool
  | .int k n, .int k' n' => decide (k = k') && decide (n = n')
  | _, _ => false
def vsEqI : List Value → List Value → Bool
  | [], [] => true
  | x :: l, y :: m => vEqI x y && vsEqI l m
  | _, _ => false
theorem vEqI_eq {x y : Value} (h : vEqI x y = true) : x = y := by
  unfold vEqI at h
  split at h
  · simp only [Bool.and_eq_true, decide_eq_true_eq] at h
    rw [h.1, h.2]
  · cases h
theorem vsEqI_eq : ∀ {l m : List Value}, vsEqI l m = true → l = m
  | [], [], _ => rfl
  | x :: l, y :: m, h => by
    simp only [vsEqI, Bool.and_eq_true] at h
    rw [vEqI_eq h.1, vsEqI_eq h.2]
  | [], _ :: _, h => by cases h
  | _ :: _, [], h => by cases h
def blkIs (B : Blk) (L : List Value) : Bool := match B with
  | .cells _ c => vsEqI c L
  | _ => false
def blkGl (B : Blk) : Bool := match B with
  | .cells false c => vsEqI c gl
  | _ => false
theorem blkIs_eq {B : Blk} {L : List Value} (h : blkIs B L = true) : ∃ o, B = .cells o L := by
  unfold blkIs at h
  split at h
  · exact ⟨_, by rw [vsEqI_eq h]⟩
  · cases h
theorem blkGl_eq {B : Blk} (h : blkGl B = true) : B = .cells false gl := by
  unfold blkGl at h
  split at h
  · rw [vsEqI_eq h]
  · cases h
def isCode (M : Mem) (b : Nat) : Bool := Nat.blt 0 b && (Nat.blt b M.size && (blkIs (M.get b) (codeC lW) && blkGl (M.get 0)))
def okT : Value := .tuple ⟨[.int .i64 0, .int .i64 0]⟩
def r28 (a : List Value) (M : Mem) : Option (Value × Mem) := match a with
  | [.agg ⟨[.slice none 0 0, .slice (some ⟨b, 0, none⟩) 2 2]⟩] => cond (isCode M b) (some (okT, M)) none
  | _ => none
def r29 (a : List Value) (M : Mem) : Option (Value × Mem) := match a with
  | [.slice (some ⟨b, 0, none⟩) 2 2] => cond (isCode M b) (some (.slice (some ⟨M.size, 0, none⟩) 2 2, M.push (.cells true [.bool true, .bool true]))) none
  | _ => none
theorem isCode_at {M : Mem} {b : Nat} (h : isCode M b = true) : b ≠ 0 ∧ b < M.size ∧ (∃ o, M.get b = .cells o (codeC lW)) ∧ M.get 0 = .cells false gl := by
  unfold isCode at h
  simp only [Bool.and_eq_true, Nat.blt_eq] at h
  exact ⟨by omega, h.2.1, blkIs_eq h.2.2.1, blkGl_eq h.2.2.2⟩
/-- The check of the two instructions, on the small memory, as an oracle. -/
noncomputable def oC2 (own : Bool) : Orc := fun f a M => open Classical in if f = 28 ∧ a = [imgV (sliceN 1 2)] ∧ M = mS gl [.cells own (codeC lW)] then some (okT, M) else none
theorem oC2_grw (own : Bool) : CfGrw (oC2 own) := fun f a M v M' h => by
  unfold oC2 at h
  split at h
  · simp only [Option.some.injEq, Prod.mk.injEq] at h; rw [← h.2]; exact Grw.refl _
  · cases h
theorem oC2_ok (own : Bool) (B0 : Nat) : CfOK Tryz.prog B0 1 (oC2 own) := by
  refine ⟨fun f a M v M' h => (oC2_grw own f a M v M' h).size, fun f a M v M' h => ?_, fun f a M v M' h => ?_⟩
  all_goals
    unfold oC2 at h
    split at h
    case isFalse => cases h
    rename_i hc
    obtain ⟨rfl, rfl, rfl⟩ := hc
    simp only [Option.some.injEq, Prod.mk.injEq] at h
    obtain ⟨rfl, rfl⟩ := h
  · exact check_ok (l := lW) lW_ok
  · exact hasB (by kernel_rfl)
theorem check_at {B0 : Nat} {M : Mem} {b : Nat} (ht : M.top) (h : isCode M b = true) : CallOK Tryz.prog B0 1 28 [imgV (sliceN b 2)] M okT M := by
  obtain ⟨h0, h1, ⟨o, h2⟩, h3⟩ := isCode_at h
  have hF := fits1 (l := lW) (o1 := o) ht h3 (by omega) h1 h0 h2
  have hrun : oC2 o 28 [imgV (sliceN 1 2)] (mS gl [M.get b]) = some (okT, mS gl [M.get b]) := by rw [h2]; exact if_pos ⟨rfl, rfl, rfl⟩
  refine (emb_pure (v' := okT) free_gl (oC2_ok o B0) (oC2_grw o) hF hrun (.cons (sim_agg (.cons ((free_slc0 _ _).sim _ _) (.cons (sim_slc (ρ := rhoE [b] M) (i := 1) rfl) .nil))) .nil) ((plain2_free rfl).embA _ _) ?_ ?_).1
  · rw [mS_get, if_pos (by decide), mG_get]
  · intro i s hs
    rcases i with _ | i
    · cases hs; rw [mS_get]; rfl
    · cases hs
open Go.Crt in
def tW : Tab := tabL [(48, askIn), (20, askMay)]
theorem tW_ok : TabOK Tryz.prog tW := tabL_cons (fun a v h => tn13_ok 48 a v (tAlt_l h)) (tabL_cons (fun a v h => tn13_ok 20 a v ((show tn13 20 a = tn12 20 a from rfl).trans (tAlt_l h))) (tabL_nil _))
def oW : Orc := fun f args m => cond (Nat.beq f 28) (r28 args m) (cond (Nat.beq f 29) (r29 args m) (oTab tW f args m))
theorem r28_some {a : List Value} {M M' : Mem} {v : Value} (h : r28 a M = some (v, M')) : ∃ b, a = [imgV (sliceN b 2)] ∧ isCode M b = true ∧ v = okT ∧ M' = M := by
  unfold r28 at h
  split at h
  · rename_i b
    cases hc : isCode M b with
    | false => rw [hc] at h; cases h
    | true =>
      rw [hc] at h
      simp only [cond_true, Option.some.injEq, Prod.mk.injEq] at h
      exact ⟨b, rfl, hc, h.1.symm, h.2.symm⟩
  · cases h
theorem r29_some {a : List Value} {M M' : Mem} {v : Value} (h : r29 a M = some (v, M')) : ∃ b, a = [sliceN b 2] ∧ isCode M b = true ∧ v = .slice (some ⟨M.size, 0, none⟩) 2 2 ∧ M' = M.push (.cells true [.bool true, .bool true]) := by
  unfold r29 at h
  split at h
  · rename_i b
    cases hc : isCode M b with
    | false => rw [hc] at h; cases h
    | true =>
      rw [hc] at h
      simp only [cond_true, Option.some.injEq, Prod.mk.injEq] at h
      exact ⟨b, rfl, hc, h.1.symm, h.2.symm⟩
  · cases h
theorem oW_cases {f : FuncId} {a : List Value} {M M' : Mem} {v : Value} (h : oW f a M = some (v, M')) : (f = 28 ∧ r28 a M = some (v, M')) ∨ (f = 29 ∧ r29 a M = some (v, M')) ∨ oTab tW f a M = some (v, M') := by
  unfold oW at h
  cases h1 : Nat.beq f 28 with
  | true => rw [h1] at h; exact .inl ⟨Nat.eq_of_beq_eq_true h1, h⟩
  | false =>
    rw [h1] at h
    cases h2 : Nat.beq f 29 with
    | true => rw [h2] at h; exact .inr (.inl ⟨Nat.eq_of_beq_eq_true h2, h⟩)
    | false => rw [h2] at h; exact .inr (.inr h)
theorem oW_grw : CfGrw oW := fun f a M v M' h => by
  rcases oW_cases h with ⟨rfl, h⟩ | ⟨rfl, h⟩ | h
  · obtain ⟨b, rfl, hc, rfl, rfl⟩ := r28_some h
    exact Grw.refl _
  · obtain ⟨b, rfl, hc, rfl, rfl⟩ := r29_some h
    refine ⟨by show M.size ≤ M.size + 1; omega, fun ht => top_push ht, fun b hb hl => ?_, fun b hb ho => ?_⟩
    · rw [Mem.get_push_ne _ (by omega)] at hl; exact hl
    · rw [Mem.get_push_ne _ (by omega)] at ho; exact ho
  · exact oTab_grw tW _ _ _ _ _ h
theorem bools_W : boolsAt (startsL lW) lW.length = [.bool true, .bool true] := by kernel_rfl
theorem oW_ok (B0 : Nat) : CfOK Tryz.prog B0 1 oW := by
  refine ⟨fun f a M v M' h => (oW_grw f a M v M' h).size, fun f a M v M' h => ?_, fun f a M v M' h => ?_⟩
  · rcases oW_cases h with ⟨rfl, h⟩ | ⟨rfl, h⟩ | h
    · obtain ⟨b, rfl, hc, rfl, rfl⟩ := r28_some h
      intro ι w args' hr
      exact check_at hr.top hc ι w args' hr
    · obtain ⟨b, rfl, hc, rfl, rfl⟩ := r29_some h
      obtain ⟨h0, h1, ⟨o, h2⟩, h3⟩ := isCode_at hc
      intro ι w args' hr
      have hF := fits1 (l := lW) (o1 := o) hr.top h3 (by omega) h1 h0 h2
      have key := starts_at (B0 := B0) (own := o) (l := lW) lW_ok h2 hF
      rw [bools_W] at key
      exact key ι w args' hr
    · exact (oTab_ok tW_ok B0 1).ok _ _ _ _ _ h
  · rcases oW_cases h with ⟨rfl, h⟩ | ⟨rfl, h⟩ | h
    · exact hasB (by kernel_rfl)
    · exact hasB (by kernel_rfl)
    · exact (oTab_ok tW_ok B0 1).body _ _ _ _ _ h
end
end Go.Proofs.YtipdeijgaabobaaGreatDoor
/-
  FWake2: wakes: the run; on any memory.
-/
namespace Go.Proofs.YtipdeijgaabobaaGreatDoor
open Go Go.DI Go.DI.Kit Go.Proofs Go.Cmp Go.RowKit
noncomputable section
set_option maxRecDepth 100000 in
theorem wake_run : ((H.callX H.noHint oW Tryz.prog kp 1 100 13 [] (mS gl []) fun v m => some ((v, m.get 0), [], [])).map fun x => (x.1, x.2.2)) = some ((.bool true, .cells false gl), []) := by kernel_rfl
theorem wake_even : ((H.callX H.noHint oW Tryz.prog kp 1 100 13 [] (mS gl []) fun v m => some ((v, m.get 0), [], [])).map fun x => x.2.1.map Prod.fst) = ((H.callX H.noHint oW Tryz.prog kp 1 100 13 [] (mS gl []) fun v m => some ((v, m.get 0), [], [])).map fun x => x.2.1.map Prod.snd) := by kernel_rfl
theorem cfW_ok (B0 : Nat) : CfOK Tryz.prog B0 1 (callO Tryz.prog kp 1 oW 100) := callO_ok hmix hK hng (oW_ok B0) oW_grw 100
theorem wake_at {B0 : Nat} {M : Mem} (ht : M.top) (h0 : M.get 0 = .cells false gl) (h1 : 1 ≤ M.size) : CallOK Tryz.prog B0 1 13 [] M (.bool true) M := by
  obtain ⟨v, m, hr, he⟩ := H.callX_run wake_run wake_even
  have e1 : v = .bool true := congrArg Prod.fst he
  have e2 : m.get 0 = .cells false gl := congrArg Prod.snd he
  subst e1
  have hF : Fits gl [] [] M := ⟨ht, h0, h1, rfl, fun _ hb => (by cases hb), by simp, by simp, fun _ _ _ hi => (by simp at hi), fun _ hs => (by cases hs)⟩
  exact (emb_pure (v' := .bool true) free_gl (cfW_ok B0) (callO_grw oW_grw 100) hF hr .nil ((free_bool _).embA _ _) e2 (fun i s hs => by simp at hs)).1
end
end Go.Proofs.YtipdeijgaabobaaGreatDoor
/-
  FCt1: stockadelaw15.CertThin: its pieces.
-/
namespace Go.Proofs.YtipdeijgaabobaaGreatDoor
open Go Go.DI Go.DI.Kit Go.Proofs Go.Crt
noncomputable section
/-! ### what is asked -/
open Classical in
def oWk : Orc := fun f a M => if f = 13 ∧ a = [] ∧ M.get 0 = .cells false gl ∧ 1 ≤ M.size then some (.bool true, M) else none
theorem oWk_some {f : FuncId} {a : List Value} {M M' : Mem} {v : Value} (h : oWk f a M = some (v, M')) : f = 13 ∧ a = [] ∧ M.get 0 = .cells false gl ∧ 1 ≤ M.size ∧ v = .bool true ∧ M' = M := by
  unfold oWk at h
  split at h
  · rename_i hc
    simp only [Option.some.injEq, Prod.mk.injEq] at h
    exact ⟨hc.1, hc.2.1, hc.2.2.1, hc.2.2.2, h.1.symm, h.2.symm⟩
  · cases h
theorem oWk_grw : CfGrw oWk := fun f a M v M' h => by
  obtain ⟨_, _, _, _, _, rfl⟩ := oWk_some h
  exact Grw.refl _
theorem oWk_ok (B0 : Nat) : CfOK Tryz.prog B0 1 oWk := ⟨fun f a M v M' h => (oWk_grw f a M v M' h).size, fun f a M v M' h => by
    obtain ⟨rfl, rfl, h1, h2, rfl, rfl⟩ := oWk_some h
    intro ι w args' hr
    exact wake_at hr.top h1 h2 ι w args' hr, fun f a M v M' h => by
    obtain ⟨rfl, _, _, _, _, _⟩ := oWk_some h
    exact hasB (by kernel_rfl)⟩
theorem oWk_at {M : Mem} (h : M.get 0 = .cells false gl) (h1 : 1 ≤ M.size) : oWk 13 [] M = some (.bool true, M) := if_pos ⟨rfl, rfl, h, h1⟩
def o4 : Orc := oAlt o0 (oAlt oWk (oAlt (only 14 (bdy o0 2000)) (only 15 (bdy o3 2000))))
theorem o4_ok (B0 : Nat) : CfOK Tryz.prog B0 1 o4 := oAlt_ok (o0_ok B0) (oAlt_ok (oWk_ok B0) (oAlt_ok (only_ok (bdy_ok (o0_ok B0) o0_grw 2000)) (only_ok (bdy_ok (o3_ok B0) o3_grw 2000))))
theorem o4_grw : CfGrw o4 := oAlt_grw o0_grw (oAlt_grw oWk_grw (oAlt_grw (only_grw (bdy_grw o0_grw 2000)) (only_grw (bdy_grw o3_grw 2000))))
theorem o4_13 {M : Mem} (h : M.get 0 = .cells false gl) (h1 : 1 ≤ M.size) : o4 13 [] M = some (.bool true, M) := (oAlt_r (o := o0) (by rfl)).trans (oAlt_l (oWk_at h h1))
theorem oWk_off {f : FuncId} (h : f ≠ 13) (a : List Value) (M : Mem) : oWk f a M = none := if_neg fun g => h g.1
theorem o4_14 {a : List Value} {M : Mem} {r : Value × Mem} (h : bdy o0 2000 14 a M = some r) : o4 14 a M = some r := (oAlt_r (o := o0) (by rfl)).trans ((oAlt_r (oWk_off (by decide) a M)).trans (oAlt_l ((only_at ..).trans h)))
theorem o4_15 {a : List Value} {M : Mem} {r : Value × Mem} (h : bdy o3 2000 15 a M = some r) : o4 15 a M = some r := (oAlt_r (o := o0) (by rfl)).trans ((oAlt_r (oWk_off (by decide) a M)).trans ((oAlt_r (o := only 14 (bdy o0 2000)) (by rfl)).trans ((only_at ..).trans h)))
/-! ### the pieces -/
noncomputable abbrev c5 : Code := bodyOf Tryz.f5
noncomputable def lA : Code := loopN Tryz.f5 0
noncomputable def lA' : Code := loopN Tryz.f5 1
noncomputable def lB : Code := loopN Tryz.f5 2
noncomputable def lB' : Code := loopN Tryz.f5 3
noncomputable def inB : Code → Code
  | .block _ c => c
  | c => c
noncomputable def bA : Code := inB ((items lA)[2]?.getD .skip)
noncomputable def bB : Code := inB ((items lB)[2]?.getD .skip)
noncomputable abbrev rg5 (i : Nat) : Code := .region i (regA c5 i) false
theorem d5_3 : (items c5).drop 3 = [rg5 3, rg5 4, rg5 5, .block 0 (.loop lA), rg5 13, rg5 14, .block 4 (.loop lB), rg5 26, rg5 27, .ret] := by kernel_rfl
theorem dA : (items lA).drop 2 = [.block 1 bA, rg5 7] := by kernel_rfl
theorem dbA : (items bA).drop 1 = [.block 2 (.loop lA')] := by kernel_rfl
theorem dB : (items lB).drop 2 = [.block 5 bB, rg5 16] := by kernel_rfl
noncomputable def ccB : Code := match (items bB)[6]? with
  | some c => c
  | none => .skip
theorem dbB : (items bB).drop 4 = [.block 6 (.loop lB'), rg5 24, ccB] := by kernel_rfl
abbrev sA : List Nat := [3, 4, 5, 6]
abbrev rp (l : List (Nat × Value)) (A : Tab) (Q : Orc) (k : Nat) (c : Code) (ds : List Nat) (t : Tmps) (M : Mem) := pcZ (hAt (lkN l)) A tn14 Q o4 Tryz.prog kp 1 k c 112 ds t M
abbrev q13 : Orc := fun f _ M => cond (Nat.beq f 13) (some (.bool true, M)) none
noncomputable abbrev p5a : Code := seqL ((items c5).take 3)
theorem t5a (k : Nat) (ad : Option Addr) (n cap : Nat) (b : Bool) (M : Mem) : ansX (rp [(14, .bool b)] noA q13 k p5a [0, 2] (fullN 112 (argX [.slice ad n cap])) M) = some ((cond b .ret .normal, [.slice ad n cap, .bool b], M), bn .gtr 3 (i3 (Int.ofNat n)) (i3 60) (.bool b) :: cond b [o4 13 [] M = some (.bool true, M)] []) ∧
    evenX (rp [(14, .bool b)] noA q13 k p5a [0, 2] (fullN 112 (argX [.slice ad n cap])) M) := by
  cases b <;> exact ⟨by kernel_rfl, by unfold evenX; kernel_rfl⟩
abbrev qAT (v3 : Value) (M1 : Mem) (v4 : Value) (M2 : Mem) : Orc := fun f _ _ => cond (Nat.beq f 14) (some (v3, M1)) (cond (Nat.beq f 15) (some (v4, M2)) none)
theorem t5b (k : Nat) (v v3 v4 : Value) (M M1 M2 : Mem) (x : Nat → Value) : ansX (rp [] noA (qAT v3 M1 v4 M2) k (seqL [rg5 3, rg5 4, rg5 5]) sA (fullN 112 (up x [(0, v), (2, .bool false)])) M) = some ((.normal, [v3, v4, i3 0, x 6], M2), [o4 14 [v] M = some (v3, M1), o4 15 [v3] M1 = some (v4, M2)]) ∧
    evenX (rp [] noA (qAT v3 M1 v4 M2) k (seqL [rg5 3, rg5 4, rg5 5]) sA (fullN 112 (up x [(0, v), (2, .bool false)])) M) := ⟨by kernel_rfl, by unfold evenX; kernel_rfl⟩
/-! the first loop: none covers another one -/
noncomputable abbrev pA1 : Code := seqL ((items lA).take 2)
abbrev kA (v3 : Value) (ad : Option Addr) (n cap : Nat) (i j : Value) (x : Nat → Value) : Tmps := fullN 112 (up x (sA.zip [v3, .slice ad n cap, i, j]))
theorem t5c (k : Nat) (v3 j : Value) (ad : Option Addr) (n cap : Nat) (i : Int) (b : Bool) (M : Mem) (x : Nat → Value) : ansX (rp [(23, .bool b)] noA noQ k pA1 sA (kA v3 ad n cap (i3 i) j x) M) = some ((cond b .normal (.exit 0), [v3, .slice ad n cap, i3 i, j], M), [bn .lss 3 (i3 i) (i3 (Int.ofNat n)) (.bool b)]) ∧ evenX (rp [(23, .bool b)] noA noQ k pA1 sA (kA v3 ad n cap (i3 i) j x) M) := by
  cases b <;> exact ⟨by kernel_rfl, by unfold evenX; kernel_rfl⟩
theorem t5c' (k : Nat) (v3 j : Value) (ad : Option Addr) (n cap : Nat) (i : Int) (M : Mem) (x : Nat → Value) : ansX (rp [(23, .bool false)] noA noQ k lA sA (kA v3 ad n cap (i3 i) j x) M) = some ((.exit 0, [v3, .slice ad n cap, i3 i, j], M), [bn .lss 3 (i3 i) (i3 (Int.ofNat n)) (.bool false)]) ∧ evenX (rp [(23, .bool false)] noA noQ k lA sA (kA v3 ad n cap (i3 i) j x) M) := ⟨by kernel_rfl, by unfold evenX; kernel_rfl⟩
theorem t5d (k : Nat) (v3 i j : Value) (ad : Option Addr) (n cap : Nat) (M : Mem) (x : Nat → Value) : ansX (rp [] noA noQ k (seqL ((items bA).take 1)) sA (kA v3 ad n cap i j x) M) = some ((.normal, [v3, .slice ad n cap, i, i3 0], M), []) ∧ evenX (rp [] noA noQ k (seqL ((items bA).take 1)) sA (kA v3 ad n cap i j x) M) := ⟨by kernel_rfl, by unfold evenX; kernel_rfl⟩
abbrev h5e (tb o1 o2 : Nat) (L L' : List Value) (b b1 : Bool) (j : Int) : List (Nat × Value) := [(29, .bool b), (34, .bool b1), (38, po tb o1), (39, .agg ⟨L⟩), (42, po tb o2), (43, .agg ⟨L'⟩), (31, i3 (j + 1))]
abbrev aF : Tab := fun f _ => cond (Nat.beq f 18) (some (.bool false)) none
theorem t5e (k tb o1 o2 : Nat) (v3 : Value) (ad : Option Addr) (n cap : Nat) (L L' : List Value) (i j : Int) (b b1 : Bool) (M : Mem) (x : Nat → Value) : ansX (rp (h5e tb o1 o2 L L' b b1 j) aF noQ k lA' sA (kA v3 ad n cap (i3 i) (i3 j) x) M) =
    some ((cond b .normal (.exit 2), [v3, .slice ad n cap, i3 i, i3 (cond b (j + 1) j)], M), bn .lss 3 (i3 j) (i3 (Int.ofNat n)) (.bool b) :: cond b (bn .neq 3 (i3 i) (i3 j) (.bool b1) :: (cond b1 [indexAddrD Tryz.prog 26 (.slice ad n cap) (i3 i) = some (po tb o1), H.ldOk (M.get tb) o1 true 741 (.agg ⟨L⟩), indexAddrD Tryz.prog 26 (.slice ad n cap) (i3 j) = some (po tb o2), H.ldOk (M.get tb) o2 true 741 (.agg ⟨L'⟩), tn14 18 [.agg ⟨L⟩, .agg ⟨L'⟩] = some (.bool false)] [] ++ [bn .add 3 (i3 j) (i3 1) (i3 (j + 1))])) []) ∧
    evenX (rp (h5e tb o1 o2 L L' b b1 j) aF noQ k lA' sA (kA v3 ad n cap (i3 i) (i3 j) x) M) := by
  cases b <;> cases b1 <;> exact ⟨by kernel_rfl, by unfold evenX; kernel_rfl⟩
theorem t5f (k : Nat) (v3 j : Value) (ad : Option Addr) (n cap : Nat) (i : Int) (M : Mem) (x : Nat → Value) : ansX (rp [(25, i3 (i + 1))] noA noQ k (rg5 7) sA (kA v3 ad n cap (i3 i) j x) M) = some ((.normal, [v3, .slice ad n cap, i3 (i + 1), j], M), [bn .add 3 (i3 i) (i3 1) (i3 (i + 1))]) ∧ evenX (rp [(25, i3 (i + 1))] noA noQ k (rg5 7) sA (kA v3 ad n cap (i3 i) j x) M) := ⟨by kernel_rfl, by unfold evenX; kernel_rfl⟩
/-! the second loop: all that may be is covered -/
abbrev sB : List Nat := [3, 4, 7, 8, 9, 10]
abbrev kB (ad3 : Option Addr) (n3 c3 : Nat) (ad : Option Addr) (n cap : Nat) (k i c m : Value) (x : Nat → Value) : Tmps := fullN 112 (up x (sB.zip [.slice ad3 n3 c3, .slice ad n cap, k, i, c, m]))
theorem t5g (k : Nat) (ad3 : Option Addr) (n3 c3 : Nat) (ad : Option Addr) (n cap : Nat) (i j : Value) (M : Mem) (x : Nat → Value) : ansX (rp [] noA noQ k (seqL [rg5 13, rg5 14]) sB (kA (.slice ad3 n3 c3) ad n cap i j x) M) = some ((.normal, [.slice ad3 n3 c3, .slice ad n cap, i3 0, i3 0, x 9, x 10], M), []) ∧ evenX (rp [] noA noQ k (seqL [rg5 13, rg5 14]) sB (kA (.slice ad3 n3 c3) ad n cap i j x) M) := ⟨by kernel_rfl, by unfold evenX; kernel_rfl⟩
noncomputable abbrev pB1 : Code := seqL ((items lB).take 2)
theorem t5h (q : Nat) (ad3 : Option Addr) (n3 c3 : Nat) (ad : Option Addr) (n cap : Nat) (k c m : Value) (i : Int) (b : Bool) (M : Mem) (x : Nat → Value) : ansX (rp [(49, .bool b)] noA noQ q pB1 sB (kB ad3 n3 c3 ad n cap k (i3 i) c m x) M) = some ((cond b .normal (.exit 4), [.slice ad3 n3 c3, .slice ad n cap, k, i3 i, c, m], M), [bn .lss 3 (i3 i) (i3 (Int.ofNat n3)) (.bool b)]) ∧ evenX (rp [(49, .bool b)] noA noQ q pB1 sB (kB ad3 n3 c3 ad n cap k (i3 i) c m x) M) := by
  cases b <;> exact ⟨by kernel_rfl, by unfold evenX; kernel_rfl⟩
theorem t5h' (q : Nat) (ad3 : Option Addr) (n3 c3 : Nat) (ad : Option Addr) (n cap : Nat) (k c m : Value) (i : Int) (M : Mem) (x : Nat → Value) : ansX (rp [(49, .bool false)] noA noQ q lB sB (kB ad3 n3 c3 ad n cap k (i3 i) c m x) M) = some ((.exit 4, [.slice ad3 n3 c3, .slice ad n cap, k, i3 i, c, m], M), [bn .lss 3 (i3 i) (i3 (Int.ofNat n3)) (.bool false)]) ∧ evenX (rp [(49, .bool false)] noA noQ q lB sB (kB ad3 n3 c3 ad n cap k (i3 i) c m x) M) := ⟨by kernel_rfl, by unfold evenX; kernel_rfl⟩
noncomputable abbrev pB2 : Code := seqL ((items bB).take 4)
abbrev h5i (tb o1 ab o2 : Nat) (L L' S : List Value) (b1 b2 nb : Bool) (k : Int) : List (Nat × Value) := [(55, .bool b1), (59, po tb o1), (60, .agg ⟨L⟩), (63, po ab o2), (64, .agg ⟨L'⟩), (65, .bool b2), (68, i3 (k + 1)), (71, po ab o2), (73, .agg ⟨S⟩), (75, .bool nb)]
theorem t5i (q tb o1 ab o2 : Nat) (ad3 : Option Addr) (n3 c3 : Nat) (ad : Option Addr) (n cap : Nat) (L L' S : List Value) (k i : Int) (c m : Value) (b1 b2 nb : Bool) (M : Mem) (x : Nat → Value) : ansX (rp (h5i tb o1 ab o2 L L' S b1 b2 nb k) (qA tn14 [20] []) noQ q pB2 sB (kB ad3 n3 c3 ad n cap (i3 k) (i3 i) c m x) M) =
    some ((.normal, [.slice ad3 n3 c3, .slice ad n cap, i3 (cond (b1 && b2) (k + 1) k), i3 i, .bool nb, i3 0], M), bn .lss 3 (i3 k) (i3 (Int.ofNat n)) (.bool b1) :: (cond b1 [indexAddrD Tryz.prog 26 (.slice ad n cap) (i3 k) = some (po tb o1), H.ldOk (M.get tb) o1 true 741 (.agg ⟨L⟩), indexAddrD Tryz.prog 26 (.slice ad3 n3 c3) (i3 i) = some (po ab o2), H.ldOk (M.get ab) o2 true 741 (.agg ⟨L'⟩), bn .eql 51 (.agg ⟨L⟩) (.agg ⟨L'⟩) (.bool b2)] [] ++
      (cond (b1 && b2) [bn .add 3 (i3 k) (i3 1) (i3 (k + 1))] [] ++ [indexAddrD Tryz.prog 26 (.slice ad3 n3 c3) (i3 i) = some (po ab o2), H.ldOk (M.get ab) (Nat.add o2 1) true 740 (.agg ⟨S⟩), sB14 20 [.agg ⟨S⟩], nt (B14 20 [.agg ⟨S⟩]) nb]))) ∧
    evenX (rp (h5i tb o1 ab o2 L L' S b1 b2 nb k) (qA tn14 [20] []) noQ q pB2 sB (kB ad3 n3 c3 ad n cap (i3 k) (i3 i) c m x) M) := by
  cases b1 <;> cases b2 <;> exact ⟨by kernel_rfl, by unfold evenX; kernel_rfl⟩
abbrev h5j (tb o1 ab o2 : Nat) (L L' : List Value) (b c' : Bool) (m : Int) : List (Nat × Value) := [(79, .bool b), (86, po tb o1), (87, .agg ⟨L⟩), (90, po ab o2), (91, .agg ⟨L'⟩), (9, .bool c'), (81, i3 (m + 1))]
theorem t5j (q tb o1 ab o2 : Nat) (ad3 : Option Addr) (n3 c3 : Nat) (ad : Option Addr) (n cap : Nat) (L L' : List Value) (k i : Value) (m : Int) (b c c' : Bool) (M : Mem) (x : Nat → Value) : ansX (rp (h5j tb o1 ab o2 L L' b c' m) (qA tn14 [18] []) noQ q lB' sB (kB ad3 n3 c3 ad n cap k i (.bool c) (i3 m) x) M) =
    some ((cond b .normal (.exit 6), [.slice ad3 n3 c3, .slice ad n cap, k, i, .bool (cond b c' c), i3 (cond b (m + 1) m)], M), bn .lss 3 (i3 m) (i3 (Int.ofNat n)) (.bool b) :: cond b (cond c [] [indexAddrD Tryz.prog 26 (.slice ad n cap) (i3 m) = some (po tb o1), H.ldOk (M.get tb) o1 true 741 (.agg ⟨L⟩), indexAddrD Tryz.prog 26 (.slice ad3 n3 c3) i = some (po ab o2), H.ldOk (M.get ab) o2 true 741 (.agg ⟨L'⟩), sB14 18 [.agg ⟨L⟩, .agg ⟨L'⟩]] ++
      [(Value.bool (cond c true (B14 18 [.agg ⟨L⟩, .agg ⟨L'⟩])) = .bool c'), bn .add 3 (i3 m) (i3 1) (i3 (m + 1))]) []) ∧ evenX (rp (h5j tb o1 ab o2 L L' b c' m) (qA tn14 [18] []) noQ q lB' sB (kB ad3 n3 c3 ad n cap k i (.bool c) (i3 m) x) M) := by
  cases b <;> cases c <;> exact ⟨by kernel_rfl, by unfold evenX; kernel_rfl⟩
theorem t5k (q : Nat) (ad3 : Option Addr) (n3 c3 : Nat) (ad : Option Addr) (n cap : Nat) (k i m : Value) (M : Mem) (x : Nat → Value) : ansX (rp [] noA noQ q (seqL [rg5 24, ccB]) sB (kB ad3 n3 c3 ad n cap k i (.bool true) m x) M) = some ((.normal, [.slice ad3 n3 c3, .slice ad n cap, k, i, .bool true, m], M), []) ∧ evenX (rp [] noA noQ q (seqL [rg5 24, ccB]) sB (kB ad3 n3 c3 ad n cap k i (.bool true) m x) M) := ⟨by kernel_rfl, by unfold evenX; kernel_rfl⟩
theorem t5l (q : Nat) (ad3 : Option Addr) (n3 c3 : Nat) (ad : Option Addr) (n cap : Nat) (k c m : Value) (i : Int) (M : Mem) (x : Nat → Value) : ansX (rp [(51, i3 (i + 1))] noA noQ q (rg5 16) sB (kB ad3 n3 c3 ad n cap k (i3 i) c m x) M) = some ((.normal, [.slice ad3 n3 c3, .slice ad n cap, k, i3 (i + 1), c, m], M), [bn .add 3 (i3 i) (i3 1) (i3 (i + 1))]) ∧ evenX (rp [(51, i3 (i + 1))] noA noQ q (rg5 16) sB (kB ad3 n3 c3 ad n cap k (i3 i) c m x) M) := ⟨by kernel_rfl, by unfold evenX; kernel_rfl⟩
abbrev qTW (v : Value) (M' : Mem) : Orc := fun f _ _ => cond (Nat.beq f 15) (some (v, M')) (cond (Nat.beq f 13) (some (.bool true, M')) none)
theorem t5m (q : Nat) (ad3 : Option Addr) (n3 c3 : Nat) (ad ad' : Option Addr) (n cap n' cap' : Nat) (k : Int) (i c m : Value) (M M' : Mem) (x : Nat → Value) : ansX (rp [(101, .bool true), (107, .bool true)] noA (qTW (.slice ad' n' cap') M') q (seqL [rg5 26, rg5 27, .ret]) [0, 2] (kB ad3 n3 c3 ad n cap (i3 k) i c m x) M) =
    some ((.ret, [x 0, .bool true], M'), [o4 15 [.slice ad n cap] M = some (.slice ad' n' cap', M'), bn .eql 3 (i3 k) (i3 (Int.ofNat n)) (.bool true), bn .eql 3 (i3 (Int.ofNat n')) (i3 (Int.ofNat n)) (.bool true), o4 13 [] M' = some (.bool true, M')]) ∧
    evenX (rp [(101, .bool true), (107, .bool true)] noA (qTW (.slice ad' n' cap') M') q (seqL [rg5 26, rg5 27, .ret]) [0, 2] (kB ad3 n3 c3 ad n cap (i3 k) i c m x) M) := ⟨by kernel_rfl, by unfold evenX; kernel_rfl⟩
theorem res5 (x : Nat → Value) (a : Value) (M : Mem) : resD Tryz.prog (fullN 112 (up x [(0, a), (2, .bool true)])) M Tryz.f5.results.toList = some [.bool true] := by kernel_rfl
theorem set112 : SetLaw 112 := by
  intro x d v hd
  refine ⟨up x [(d, v)], ?_⟩
  iterate 112 (rcases d with _ | d; · kernel_rfl)
  omega
end
end Go.Proofs.YtipdeijgaabobaaGreatDoor
/-
  FCt2: stockadelaw15.CertThin: what is left, in plain Lean; its loops.
-/
namespace Go.Proofs.YtipdeijgaabobaaGreatDoor
open Go Go.DI Go.DI.Kit Go.Proofs Go.Crt
noncomputable section
/-! ### what is left -/
section
variable {ps : List PO}
abbrev tl (ps : List PO) : List (PO × Nat) := ps.zipIdx.filter fun x => !lessB (vals ps) x.1.1 x.2
abbrev ts (ps : List PO) : List PO := kO ps ps.length
theorem ts_eq : ts ps = (tl ps).map Prod.fst := by
  unfold ts kO
  rw [List.take_of_length_le (by rw [List.length_zipIdx]; exact Nat.le_refl _)]
theorem ts_len : (ts ps).length ≤ ps.length := kO_len ps _
theorem ts_sub : (ts ps).Sublist ps := by
  rw [ts_eq]
  have h1 : ((tl ps).map Prod.fst).Sublist (ps.zipIdx.map Prod.fst) := (List.filter_sublist).map _
  rw [List.zipIdx_map_fst] at h1
  exact h1
theorem snd_nodup : ((tl ps).map Prod.snd).Nodup := by
  have h1 : ((tl ps).map Prod.snd).Sublist (ps.zipIdx.map Prod.snd) := (List.filter_sublist).map _
  refine h1.nodup ?_
  rw [List.zipIdx_map_snd]
  exact List.nodup_range'
theorem ts_get {i : Nat} {p : PO} (h : (ts ps)[i]? = some p) : ∃ a, (tl ps)[i]? = some (p, a) ∧ (vals ps)[a]? = some p.1 ∧ lessB (vals ps) p.1 a = false := by
  rw [ts_eq, List.getElem?_map] at h
  cases hx : (tl ps)[i]? with
  | none => rw [hx] at h; cases h
  | some x =>
    obtain ⟨q, a⟩ := x
    rw [hx] at h
    cases h
    have hm := List.mem_filter.1 (List.mem_of_getElem? hx)
    refine ⟨a, rfl, ?_, by simpa using hm.2⟩
    have := (List.mem_zipIdx_iff_getElem? (x := (q, a))).1 hm.1
    rw [List.getElem?_map, this]; rfl
/-- None covers another one. -/
theorem ts_apart {i j : Nat} {p q : PO} (hi : (ts ps)[i]? = some p) (hj : (ts ps)[j]? = some q) (hne : i ≠ j) : covers p.1 q.1 = false := by
  obtain ⟨a, a1, a2, a3⟩ := ts_get hi
  obtain ⟨b, b1, b2, b3⟩ := ts_get hj
  refine kept_apart a2 b2 a3 b3 fun e => hne ?_
  subst e
  have w1 : ((tl ps).map Prod.snd)[i]? = some a := by rw [List.getElem?_map, a1]; rfl
  have w2 : ((tl ps).map Prod.snd)[j]? = some a := by rw [List.getElem?_map, b1]; rfl
  obtain ⟨l1, k1⟩ := List.getElem?_eq_some_iff.1 w1
  obtain ⟨l2, k2⟩ := List.getElem?_eq_some_iff.1 w2
  exact (List.getElem_inj snd_nodup).1 (k1.trans k2.symm)
theorem vals_ok (ps : List PO) : AllOk (vals ps) := fun p hp => by
  obtain ⟨q, _, rfl⟩ := List.mem_map.1 hp
  exact q.2
/-- What may be is covered. -/
theorem ts_covers {i : Nat} {p : PO} (hi : ps[i]? = some p) (hm : maySt p.1.s = true) : (ts ps).any (fun q => covers q.1 p.1) = true := by
  have hp : (vals ps)[i]? = some p.1 := by rw [List.getElem?_map, hi]; rfl
  obtain ⟨q, k, h1, h2, h3⟩ := kept_covers (vals_ok ps) _ hp hm (Nat.le_refl _)
  rw [List.getElem?_map] at h1
  cases hq : ps[k]? with
  | none => rw [hq] at h1; cases h1
  | some q' =>
    rw [hq] at h1
    cases h1
    rw [List.any_eq_true]
    refine ⟨q', ?_, h3⟩
    rw [ts_eq]
    refine List.mem_map.2 ⟨(q', k), List.mem_filter.2 ⟨(List.mem_zipIdx_iff_getElem? (x := (q', k))).2 hq, ?_⟩, rfl⟩
    show (!lessB (vals ps) q'.1 k) = true
    rw [h2]; rfl
/-- Thin leaves all of it. -/
theorem ts_again : (ts (ts ps)).length = (ts ps).length := by
  rw [ts_eq (ps := ts ps), List.length_map]
  have : tl (ts ps) = (ts ps).zipIdx := by
    refine List.filter_eq_self.2 fun x hx => ?_
    obtain ⟨p, i⟩ := x
    have hi := (List.mem_zipIdx_iff_getElem? (x := (p, i))).1 hx
    cases hl : lessB (vals (ts ps)) p.1 i with
    | false => rfl
    | true =>
      exfalso
      obtain ⟨q, k, h1, h2⟩ := less_iff.1 hl
      rw [List.getElem?_map] at h1
      cases hq : (ts ps)[k]? with
      | none => rw [hq] at h1; cases h1
      | some q' =>
        rw [hq] at h1
        cases h1
        have hb := beats_iff.1 h2
        have := ts_apart hq hi hb.1
        rw [this] at hb; cases hb.2.1
  rw [this, List.length_zipIdx]
end
/-! ### the first loop -/
theorem blk_n {o : Orc} {N k id : Nat} {c : Code} {t t' : Tmps} {m m' : Mem} (h : codeD Tryz.prog kp 1 o (drawD Tryz.prog kp 1 o N) N k c t m = some (.normal, t', m')) : codeD Tryz.prog kp 1 o (drawD Tryz.prog kp 1 o N) N k (.block id c) t m = some (.normal, t', m') := by
  rw [codeD, h]
abbrev cd5 (k : Nat) (c : Code) : Tmps → Mem → Option (Ex × Tmps × Mem) := codeD Tryz.prog kp 1 o4 (drawD Tryz.prog kp 1 o4 112) 112 k c
theorem lt_t {i n : Nat} (h : i < n) : bn .lss 3 (i3 (i : Int)) (i3 (Int.ofNat n)) (.bool true) := by
  have hl := lt3 (i : Int) (Int.ofNat n)
  rwa [decide_eq_true (show (i : Int) < Int.ofNat n from Int.ofNat_lt.2 h)] at hl
theorem lt_f {i n : Nat} (h : ¬ i < n) : bn .lss 3 (i3 (i : Int)) (i3 (Int.ofNat n)) (.bool false) := by
  have hl := lt3 (i : Int) (Int.ofNat n)
  rwa [decide_eq_false (show ¬ (i : Int) < Int.ofNat n from fun q => h (Int.ofNat_lt.1 q))] at hl
/-- A slice of points: how one of them is read. -/
theorem pts_get {M : Mem} {ad : Option Addr} {n cap : Nat} {qs : List PO} (h : PtsAt M (.slice ad n cap) qs) : n = qs.length ∧ ∃ b, ∀ {i : Nat} {p : PO}, qs[i]? = some p → indexAddrD Tryz.prog 26 (.slice ad n cap) (i3 (i : Int)) = some (po b (i * 741)) ∧ H.ldOk (M.get b) (i * 741) true 741 (ptV p.1) ∧ H.ldOk (M.get b) (Nat.add (i * 741) 1) true 740 (stV p.1.s) := by
  obtain ⟨ad', cap', e, hne⟩ := h.ex
  cases e
  refine ⟨rfl, ?_⟩
  by_cases hq : qs = []
  · subst hq
    exact ⟨0, fun {i p} h => by simp at h⟩
  · obtain ⟨b, sp, own, rest, rfl, g2, g3⟩ := hne hq
    refine ⟨b, fun {i p} hp => ?_⟩
    have hlt := (List.getElem?_eq_some_iff.1 hp).1
    obtain ⟨q1, q2, q3⟩ := pt_drop hp g3
    exact ⟨ia55 und26 sz51 hlt, q1, q3⟩
section
variable {M : Mem} {v3 : Value} {ad : Option Addr} {n cap : Nat} {qs : List PO}
theorem loopA' (h4 : PtsAt M (.slice ad n cap) qs) (hn : n < 100000) (ha : ∀ {i j : Nat} {p q : PO}, qs[i]? = some p → qs[j]? = some q → i ≠ j → covers p.1 q.1 = false) (k : Nat) {i : Nat} (hi : i < n) :
    ∀ (d m j : Nat) (x : Nat → Value), n = m + d → d + 1 ≤ j → ∃ x', loopD (cd5 k lA') j (kA v3 ad n cap (i3 (i : Int)) (i3 (m : Int)) x) M = some (.exit 2, kA v3 ad n cap (i3 (i : Int)) (i3 (n : Int)) x', M)
  | 0, m, j, x, hm, hj => by
    obtain ⟨j, rfl⟩ : ∃ j', j = j' + 1 := ⟨j - 1, by omega⟩
    obtain rfl : m = n := by omega
    obtain ⟨x', h⟩ := pcZ_full (tells_alt tn14 _) set112 rfl (t5e k 0 0 0 v3 ad m cap [] [] (i : Int) (m : Int) false false M x).1 (t5e k 0 0 0 v3 ad m cap [] [] (i : Int) (m : Int) false false M x).2 (one_p (lt_f (Nat.lt_irrefl _)))
    exact ⟨x', loopD_stop h (by simp)⟩
  | d + 1, m, j, x, hm, hj => by
    obtain ⟨j, rfl⟩ : ∃ j', j = j' + 1 := ⟨j - 1, by omega⟩
    obtain ⟨en, b, hg⟩ := pts_get h4
    obtain ⟨p, hp⟩ : ∃ p, qs[i]? = some p := ⟨_, List.getElem?_eq_getElem (by omega)⟩
    obtain ⟨q, hq⟩ : ∃ q, qs[m]? = some q := ⟨_, List.getElem?_eq_getElem (by omega)⟩
    obtain ⟨p1, p2, _⟩ := hg hp
    obtain ⟨q1, q2, _⟩ := hg hq
    obtain ⟨x', h⟩ := pcZ_full (tells_alt tn14 _) set112 rfl (t5e k b (i * 741) (m * 741) v3 ad n cap (gP p) (gP q) (i : Int) (m : Int) true (!decide ((i : Int) = (m : Int))) M x).1 (t5e k b (i * 741) (m * 741) v3 ad n cap (gP p) (gP q) (i : Int) (m : Int) true (!decide ((i : Int) = (m : Int))) M x).2
      (cons_p (lt_t (by omega)) (cons_p (bin_neI ..) (app_p (if_p (fun hb => cons_p p1 (cons_p p2 (cons_p q1 (cons_p q2 (one_p (by
        have hne : i ≠ m := fun e => by subst e; simp at hb
        exact (tn14_18 p.2 q.2).trans (by rw [ha hp hq hne]))))))) fun _ => nil_p) (one_p (add3 (by omega))))))
    obtain ⟨x2, h2⟩ := loopA' h4 hn ha k hi d (m + 1) j x' (by omega) (by omega)
    exact ⟨x2, loopD_next h h2⟩
theorem loopA (h4 : PtsAt M (.slice ad n cap) qs) (hn : n < 100000) (ha : ∀ {i j : Nat} {p q : PO}, qs[i]? = some p → qs[j]? = some q → i ≠ j → covers p.1 q.1 = false) (k : Nat) (hk : n + 1 ≤ k) :
    ∀ (d i j : Nat) (w : Value) (x : Nat → Value), n = i + d → d + 1 ≤ j → ∃ w' x', loopD (cd5 k lA) j (kA v3 ad n cap (i3 (i : Int)) w x) M = some (.exit 0, kA v3 ad n cap (i3 (n : Int)) w' x', M)
  | 0, i, j, w, x, hi, hj => by
    obtain ⟨j, rfl⟩ : ∃ j', j = j' + 1 := ⟨j - 1, by omega⟩
    obtain rfl : i = n := by omega
    obtain ⟨x', h⟩ := pcZ_full (tells_alt tn14 _) set112 rfl (t5c' k v3 w ad i cap (i : Int) M x).1 (t5c' k v3 w ad i cap (i : Int) M x).2 (one_p (lt_f (Nat.lt_irrefl _)))
    exact ⟨w, x', loopD_stop h (by simp)⟩
  | d + 1, i, j, w, x, hi, hj => by
    obtain ⟨j, rfl⟩ : ∃ j', j = j' + 1 := ⟨j - 1, by omega⟩
    obtain ⟨x1, h1⟩ := pcZ_full (tells_alt tn14 _) set112 rfl (t5c k v3 w ad n cap (i : Int) true M x).1 (t5c k v3 w ad n cap (i : Int) true M x).2 (one_p (lt_t (by omega)))
    obtain ⟨x2, h2⟩ := pcZ_full (tells_alt tn14 _) set112 rfl (t5d k v3 (i3 (i : Int)) w ad n cap M x1).1 (t5d k v3 (i3 (i : Int)) w ad n cap M x1).2 nil_p
    obtain ⟨x3, h3⟩ := loopA' (v3 := v3) h4 hn ha k (i := i) (by omega) n 0 k x2 (by omega) (by omega)
    have h4' := code_loop 1 bA dbA h2 h3
    have hb := blk_n (id := 1) (h4'.trans (show _ = some (Ex.normal, kA v3 ad n cap (i3 (i : Int)) (i3 (n : Int)) x3, M) from rfl))
    obtain ⟨x5, h5⟩ := pcZ_full (tells_alt tn14 _) set112 rfl (t5f k v3 (i3 (n : Int)) ad n cap (i : Int) M x3).1 (t5f k v3 (i3 (n : Int)) ad n cap (i : Int) M x3).2 (one_p (add3 (by omega)))
    have h6 := (code_step 2 lA dA h1 hb).trans h5
    obtain ⟨w', x7, h7⟩ := loopA h4 hn ha k hk d (i + 1) j (i3 (n : Int)) x5 (by omega) (by omega)
    exact ⟨w', x7, loopD_next h6 h7⟩
end
end
end Go.Proofs.YtipdeijgaabobaaGreatDoor
/-
  FCt3: stockadelaw15.CertThin answers true.
-/
namespace Go.Proofs.YtipdeijgaabobaaGreatDoor
open Go Go.DI Go.DI.Kit Go.Proofs Go.Crt
noncomputable section
section
variable {M : Mem} {ad3 ad : Option Addr} {n3 c3 n cap : Nat} {ps qs : List PO}
theorem loopB' (h3 : PtsAt M (.slice ad3 n3 c3) ps) (h4 : PtsAt M (.slice ad n cap) qs) (hn : n < 100000) (k : Nat) {i : Nat} {p : PO} (hp : ps[i]? = some p) (K : Value) :
    ∀ (d m j : Nat) (c : Bool) (x : Nat → Value), n = m + d → d + 1 ≤ j → ∃ x', loopD (cd5 k lB') j (kB ad3 n3 c3 ad n cap K (i3 (i : Int)) (.bool c) (i3 (m : Int)) x) M = some (.exit 6, kB ad3 n3 c3 ad n cap K (i3 (i : Int)) (.bool (c || (qs.drop m).any fun q => covers q.1 p.1)) (i3 (n : Int)) x', M)
  | 0, m, j, c, x, hm, hj => by
    obtain ⟨j, rfl⟩ : ∃ j', j = j' + 1 := ⟨j - 1, by omega⟩
    obtain rfl : m = n := by omega
    obtain ⟨en, _⟩ := pts_get h4
    obtain ⟨x', h⟩ := pcZ_full (tells_alt tn14 _) set112 rfl (t5j k 0 0 0 0 ad3 n3 c3 ad m cap [] [] K (i3 (i : Int)) (m : Int) false c false M x).1 (t5j k 0 0 0 0 ad3 n3 c3 ad m cap [] [] K (i3 (i : Int)) (m : Int) false c false M x).2 (one_p (lt_f (Nat.lt_irrefl _)))
    refine ⟨x', ?_⟩
    rw [List.drop_eq_nil_of_le (by omega), List.any_nil, Bool.or_false]
    exact loopD_stop h (by simp)
  | d + 1, m, j, c, x, hm, hj => by
    obtain ⟨j, rfl⟩ : ∃ j', j = j' + 1 := ⟨j - 1, by omega⟩
    obtain ⟨en, b, hg⟩ := pts_get h4
    obtain ⟨_, b3, hg3⟩ := pts_get h3
    obtain ⟨q, hq⟩ : ∃ q, qs[m]? = some q := ⟨_, List.getElem?_eq_getElem (by omega)⟩
    obtain ⟨p1, p2, _⟩ := hg3 hp
    obtain ⟨q1, q2, _⟩ := hg hq
    have hd : qs.drop m = q :: qs.drop (m + 1) := by
      obtain ⟨hj, e⟩ := List.getElem?_eq_some_iff.1 hq
      rw [List.drop_eq_getElem_cons hj, e]
    obtain ⟨x', h⟩ := pcZ_full (tells_alt tn14 _) set112 rfl (t5j k b (m * 741) b3 (i * 741) ad3 n3 c3 ad n cap (gP q) (gP p) K (i3 (i : Int)) (m : Int) true c (c || covers q.1 p.1) M x).1 (t5j k b (m * 741) b3 (i * 741) ad3 n3 c3 ad n cap (gP q) (gP p) K (i3 (i : Int)) (m : Int) true c (c || covers q.1 p.1) M x).2
      (cons_p (lt_t (by omega)) (app_p (if_p (fun _ => nil_p) fun _ => cons_p q1 (cons_p q2 (cons_p p1 (cons_p p2 (one_p (said_B (tn14_18 q.2 p.2))))))) (cons_p (by
        rw [show B14 18 [.agg ⟨gP q⟩, .agg ⟨gP p⟩] = covers q.1 p.1 from ansB_of (tn14_18 q.2 p.2)]
        cases c <;> rfl) (one_p (add3 (by omega))))))
    obtain ⟨x2, h2⟩ := loopB' h3 h4 hn k hp K d (m + 1) j (c || covers q.1 p.1) x' (by omega) (by omega)
    refine ⟨x2, ?_⟩
    rw [hd, List.any_cons, ← Bool.or_assoc]
    exact loopD_next h h2
theorem loopB (h3 : PtsAt M (.slice ad3 n3 c3) ps) (h4 : PtsAt M (.slice ad n cap) qs) (hn : n < 100000) (hn3 : n3 < 100000) (hc : ∀ {i : Nat} {p : PO}, ps[i]? = some p → maySt p.1.s = true → qs.any (fun q => covers q.1 p.1) = true) (q : Nat) (hq : n + 1 ≤ q) :
    ∀ (d i j kk : Nat) (c w : Value) (x : Nat → Value), n3 = i + d → d + 1 ≤ j → (qs.drop kk).Sublist (ps.drop i) → kk ≤ n →
    ∃ c' w' x', loopD (cd5 q lB) j (kB ad3 n3 c3 ad n cap (i3 (kk : Int)) (i3 (i : Int)) c w x) M = some (.exit 4, kB ad3 n3 c3 ad n cap (i3 (n : Int)) (i3 (n3 : Int)) c' w' x', M)
  | 0, i, j, kk, c, w, x, hi, hj, hs, hk => by
    obtain ⟨j, rfl⟩ : ∃ j', j = j' + 1 := ⟨j - 1, by omega⟩
    obtain rfl : i = n3 := by omega
    obtain ⟨en, _⟩ := pts_get h4
    obtain ⟨en3, _⟩ := pts_get h3
    have hkk : kk = n := by
      rw [List.drop_eq_nil_of_le (show ps.length ≤ i by omega)] at hs
      have := List.sublist_nil.1 hs
      have := congrArg List.length this
      rw [List.length_drop] at this
      simp at this
      omega
    subst hkk
    obtain ⟨x', h⟩ := pcZ_full (tells_alt tn14 _) set112 rfl (t5h' q ad3 i c3 ad kk cap (i3 (kk : Int)) c w (i : Int) M x).1 (t5h' q ad3 i c3 ad kk cap (i3 (kk : Int)) c w (i : Int) M x).2 (one_p (lt_f (Nat.lt_irrefl _)))
    exact ⟨c, w, x', loopD_stop h (by simp)⟩
  | d + 1, i, j, kk, c, w, x, hi, hj, hs, hk => by
    obtain ⟨j, rfl⟩ : ∃ j', j = j' + 1 := ⟨j - 1, by omega⟩
    obtain ⟨en, b, hg⟩ := pts_get h4
    obtain ⟨en3, b3, hg3⟩ := pts_get h3
    obtain ⟨p, hp⟩ : ∃ p, ps[i]? = some p := ⟨_, List.getElem?_eq_getElem (by omega)⟩
    obtain ⟨p1, p2, p3⟩ := hg3 hp
    have hd : ps.drop i = p :: ps.drop (i + 1) := by
      obtain ⟨hj, e⟩ := List.getElem?_eq_some_iff.1 hp
      rw [List.drop_eq_getElem_cons hj, e]
    obtain ⟨x1, h1⟩ := pcZ_full (tells_alt tn14 _) set112 rfl (t5h q ad3 n3 c3 ad n cap (i3 (kk : Int)) c w (i : Int) true M x).1 (t5h q ad3 n3 c3 ad n cap (i3 (kk : Int)) c w (i : Int) true M x).2 (one_p (lt_t (by omega)))
    -- what is matched
    have step : ∃ kk' x2, kk' ≤ n ∧ (qs.drop kk').Sublist (ps.drop (i + 1)) ∧ cd5 q pB2 (kB ad3 n3 c3 ad n cap (i3 (kk : Int)) (i3 (i : Int)) c w x1) M = some (.normal, kB ad3 n3 c3 ad n cap (i3 (kk' : Int)) (i3 (i : Int)) (.bool (!maySt p.1.s)) (i3 ((0 : Nat) : Int)) x2, M) := by
      have tailp : ∀ {b1 b2 : Bool}, (b1 && b2) = true → kk < n → True := fun _ _ => trivial
      by_cases hkn : kk < n
      · obtain ⟨r, hr⟩ : ∃ r, qs[kk]? = some r := ⟨_, List.getElem?_eq_getElem (by omega)⟩
        obtain ⟨r1, r2, _⟩ := hg hr
        have hdr : qs.drop kk = r :: qs.drop (kk + 1) := by
          obtain ⟨hj, e⟩ := List.getElem?_eq_some_iff.1 hr
          rw [List.drop_eq_getElem_cons hj, e]
        obtain ⟨x2, h2⟩ := pcZ_full (tells_alt tn14 _) set112 rfl (t5i q b (kk * 741) b3 (i * 741) ad3 n3 c3 ad n cap (gP r) (gP p) (stC p.1.s) (kk : Int) (i : Int) c w true (decide (r.1 = p.1)) (!maySt p.1.s) M x1).1 (t5i q b (kk * 741) b3 (i * 741) ad3 n3 c3 ad n cap (gP r) (gP p) (stC p.1.s) (kk : Int) (i : Int) c w true (decide (r.1 = p.1)) (!maySt p.1.s) M x1).2
          (cons_p (lt_t hkn) (app_p (if_p (fun _ => cons_p r1 (cons_p r2 (cons_p p1 (cons_p p2 (one_p (eq51 r p)))))) fun _ => nil_p) (app_p (if_p (fun _ => one_p (add3 (by omega))) fun _ => nil_p) (cons_p p1 (cons_p p3 (cons_p (said_B (tn14_20 p.2)) (one_p (not_B (tn14_20 p.2)))))))))
        rw [hd, hdr] at hs
        by_cases e : r.1 = p.1
        · rw [decide_eq_true e] at h2
          have e' : r = p := Subtype.ext e
          subst e'
          refine ⟨kk + 1, x2, by omega, ?_, h2⟩
          exact List.Sublist.of_cons_cons hs
        · rw [decide_eq_false e] at h2
          refine ⟨kk, x2, by omega, ?_, h2⟩
          rw [hdr]
          cases hs with
          | cons _ h => exact h
          | cons_cons _ h => exact absurd rfl e
      · obtain ⟨x2, h2⟩ := pcZ_full (tells_alt tn14 _) set112 rfl (t5i q 0 0 b3 (i * 741) ad3 n3 c3 ad n cap [] [] (stC p.1.s) (kk : Int) (i : Int) c w false false (!maySt p.1.s) M x1).1 (t5i q 0 0 b3 (i * 741) ad3 n3 c3 ad n cap [] [] (stC p.1.s) (kk : Int) (i : Int) c w false false (!maySt p.1.s) M x1).2
          (cons_p (lt_f hkn) (app_p (if_p (fun h => (by cases h)) fun _ => nil_p) (app_p (if_p (fun h => (by cases h)) fun _ => nil_p) (cons_p p1 (cons_p p3 (cons_p (said_B (tn14_20 p.2)) (one_p (not_B (tn14_20 p.2)))))))))
        refine ⟨kk, x2, hk, ?_, h2⟩
        rw [List.drop_eq_nil_of_le (by omega)]
        exact List.nil_sublist _
    obtain ⟨kk', x2, hk', hs', h2⟩ := step
    obtain ⟨x3, h3'⟩ := loopB' h3 h4 hn q hp (i3 (kk' : Int)) n 0 q (!maySt p.1.s) x2 (by omega) (by omega)
    have hcov : (!maySt p.1.s || (qs.drop 0).any fun r => covers r.1 p.1) = true := by
      rw [List.drop_zero]
      cases hm : maySt p.1.s with
      | false => rfl
      | true => rw [hc hp hm]; rfl
    rw [hcov] at h3'
    have h5 := code_loop 4 bB dbB h2 h3'
    obtain ⟨x6, h6⟩ := pcZ_full (tells_alt tn14 _) set112 rfl (t5k q ad3 n3 c3 ad n cap (i3 (kk' : Int)) (i3 (i : Int)) (i3 (n : Int)) M x3).1 (t5k q ad3 n3 c3 ad n cap (i3 (kk' : Int)) (i3 (i : Int)) (i3 (n : Int)) M x3).2 nil_p
    have hb := blk_n (id := 5) (h5.trans h6)
    obtain ⟨x7, h7⟩ := pcZ_full (tells_alt tn14 _) set112 rfl (t5l q ad3 n3 c3 ad n cap (i3 (kk' : Int)) (.bool true) (i3 (n : Int)) (i : Int) M x6).1 (t5l q ad3 n3 c3 ad n cap (i3 (kk' : Int)) (.bool true) (i3 (n : Int)) (i : Int) M x6).2 (one_p (add3 (by omega)))
    have h8 := (code_step 2 lB dB h1 hb).trans h7
    obtain ⟨c', w', x9, h9⟩ := loopB h3 h4 hn hn3 hc q hq d (i + 1) j kk' (.bool true) (i3 (n : Int)) x7 (by omega) (by omega) hs' hk'
    exact ⟨c', w', x9, loopD_next h8 h9⟩
end
/-- The law. -/
theorem certThin_run {M : Mem} {v : Value} {ps : List PO} (h0 : M.get 0 = .cells false gl) (h1 : 1 ≤ M.size) (hv : PtsAt M v ps) : ∃ M', bdy o4 2000 5 [v] M = some (.bool true, M') ∧ Ext M M' := by
  have hv0 := hv
  obtain ⟨ad0, cap0, rfl, _⟩ := hv.ex
  have hgt : bn .gtr 3 (i3 (Int.ofNat ps.length)) (i3 60) (.bool (decide (60 < ps.length))) := by
    show binD _ _ _ _ _ _ = _
    rw [bin_gtI, decide_eq_decide.2 (show ((60 : Int) < Int.ofNat ps.length) ↔ 60 < ps.length from Int.ofNat_lt (n := 60))]
  obtain ⟨x1, a1⟩ := pcZ_full (tells_alt tn14 _) set112 rfl (t5a 2000 ad0 ps.length cap0 (decide (60 < ps.length)) M).1 (t5a 2000 ad0 ps.length cap0 (decide (60 < ps.length)) M).2 (cons_p hgt (if_p (fun _ => one_p (o4_13 h0 h1)) fun _ => nil_p))
  by_cases hbig : 60 < ps.length
  · rw [decide_eq_true hbig] at a1
    have a2 := codeD_cutE 3 c5 (by simp) a1
    exact ⟨M, bodyN_of (fnE 5 Tryz.f5) (by kernel_rfl) (by kernel_rfl) a2 (res5 ..), Ext.refl _⟩
  · rw [decide_eq_false hbig] at a1
    have a2 := codeD_cut 3 c5 a1
    obtain ⟨v3, M1, e1, own1, r1⟩ := points_at (k := 2000) (by omega) hv0 (by omega)
    have at1 := own1.at
    obtain ⟨v4, M2, e2, own2, r2⟩ := thin_at (by omega) at1
    have at2 : PtsAt M2 v3 ps := at1.ext e2
    have at3 : PtsAt M2 v4 (ts ps) := own2.at
    obtain ⟨ad3, c3, ev3, _⟩ := at2.ex
    obtain ⟨ad4, c4, ev4, _⟩ := at3.ex
    subst ev3 ev4
    have hlen := ts_len (ps := ps)
    obtain ⟨x3, b1⟩ := pcZ_full (tells_alt tn14 _) set112 rfl (t5b 2000 (.slice ad0 ps.length cap0) (.slice ad3 ps.length c3) (.slice ad4 (ts ps).length c4) M M1 M2 x1).1 (t5b 2000 (.slice ad0 ps.length cap0) (.slice ad3 ps.length c3) (.slice ad4 (ts ps).length c4) M M1 M2 x1).2 (cons_p (o4_14 r1) (one_p (o4_15 r2)))
    rw [d5_3] at a2
    have b2 := codeL_cut (P := Tryz.prog) (K := kp) (G := 1) (cf := o4) (N := 112) (k := 2000) 3 [rg5 3, rg5 4, rg5 5, .block 0 (.loop lA), rg5 13, rg5 14, .block 4 (.loop lB), rg5 26, rg5 27, .ret] b1
    obtain ⟨wA, xA, hA⟩ := loopA (v3 := .slice ad3 ps.length c3) at3 (by omega) (fun hi hj hne => ts_apart hi hj hne) 2000 (by omega) (ts ps).length 0 2000 (x1 6) x3 (by omega) (by omega)
    have hblkA : codeD Tryz.prog kp 1 o4 (drawD Tryz.prog kp 1 o4 112) 112 2000 (.block 0 (.loop lA)) (kA (.slice ad3 ps.length c3) ad4 (ts ps).length c4 (i3 ((0 : Nat) : Int)) (x1 6) x3) M2 = some (.normal, kA (.slice ad3 ps.length c3) ad4 (ts ps).length c4 (i3 ((ts ps).length : Int)) wA xA, M2) := by
      have hl : codeD Tryz.prog kp 1 o4 (drawD Tryz.prog kp 1 o4 112) 112 2000 (.loop lA) (kA (.slice ad3 ps.length c3) ad4 (ts ps).length c4 (i3 ((0 : Nat) : Int)) (x1 6) x3) M2 = some (.exit 0, kA (.slice ad3 ps.length c3) ad4 (ts ps).length c4 (i3 ((ts ps).length : Int)) wA xA, M2) := hA
      rw [codeD, hl]; rfl
    have b3 := codeL_cut (P := Tryz.prog) (K := kp) (G := 1) (cf := o4) (N := 112) (k := 2000) 1 [.block 0 (.loop lA), rg5 13, rg5 14, .block 4 (.loop lB), rg5 26, rg5 27, .ret] hblkA
    obtain ⟨x5, c1⟩ := pcZ_full (tells_alt tn14 _) set112 rfl (t5g 2000 ad3 ps.length c3 ad4 (ts ps).length c4 (i3 ((ts ps).length : Int)) wA M2 xA).1 (t5g 2000 ad3 ps.length c3 ad4 (ts ps).length c4 (i3 ((ts ps).length : Int)) wA M2 xA).2 nil_p
    have b4 := codeL_cut (P := Tryz.prog) (K := kp) (G := 1) (cf := o4) (N := 112) (k := 2000) 2 [rg5 13, rg5 14, .block 4 (.loop lB), rg5 26, rg5 27, .ret] c1
    obtain ⟨cB, wB, xB, hB⟩ := loopB at2 at3 (by omega) (by omega) (fun hi hm => ts_covers hi hm) 2000 (by omega) ps.length 0 2000 0 (xA 9) (xA 10) x5 (by omega) (by omega) (by rw [List.drop_zero, List.drop_zero]; exact ts_sub) (by omega)
    have hblkB : codeD Tryz.prog kp 1 o4 (drawD Tryz.prog kp 1 o4 112) 112 2000 (.block 4 (.loop lB)) (kB ad3 ps.length c3 ad4 (ts ps).length c4 (i3 ((0 : Nat) : Int)) (i3 ((0 : Nat) : Int)) (xA 9) (xA 10) x5) M2 = some (.normal, kB ad3 ps.length c3 ad4 (ts ps).length c4 (i3 ((ts ps).length : Int)) (i3 (ps.length : Int)) cB wB xB, M2) := by
      have hl : codeD Tryz.prog kp 1 o4 (drawD Tryz.prog kp 1 o4 112) 112 2000 (.loop lB) (kB ad3 ps.length c3 ad4 (ts ps).length c4 (i3 ((0 : Nat) : Int)) (i3 ((0 : Nat) : Int)) (xA 9) (xA 10) x5) M2 = some (.exit 4, kB ad3 ps.length c3 ad4 (ts ps).length c4 (i3 ((ts ps).length : Int)) (i3 (ps.length : Int)) cB wB xB, M2) := hB
      rw [codeD, hl]; rfl
    have b5 := codeL_cut (P := Tryz.prog) (K := kp) (G := 1) (cf := o4) (N := 112) (k := 2000) 1 [.block 4 (.loop lB), rg5 26, rg5 27, .ret] hblkB
    obtain ⟨v5, M3, e3, own3, r3⟩ := thin_at (by omega) at3
    obtain ⟨ad5, c5', ev5, _⟩ := own3.at.ex
    have ev5 : v5 = .slice ad5 (ts (ts ps)).length c5' := ev5
    rw [ts_again] at ev5
    subst ev5
    have e13 := (e1.trans e2).trans e3
    have g0 : M3.get 0 = .cells false gl := (e13.get 0 h1).trans h0
    have hee : bn .eql 3 (i3 ((ts ps).length : Int)) (i3 (Int.ofNat (ts ps).length)) (.bool true) := by
      show binD _ _ _ _ _ _ = _
      rw [bin_eqI]
      rw [decide_eq_true (show ((ts ps).length : Int) = Int.ofNat (ts ps).length from rfl)]
    obtain ⟨x9, c9⟩ := pcZ_full (tells_alt tn14 _) set112 rfl (t5m 2000 ad3 ps.length c3 ad4 ad5 (ts ps).length c4 (ts ps).length c5' ((ts ps).length : Int) (i3 (ps.length : Int)) cB wB M2 M3 xB).1 (t5m 2000 ad3 ps.length c3 ad4 ad5 (ts ps).length c4 (ts ps).length c5' ((ts ps).length : Int) (i3 (ps.length : Int)) cB wB M2 M3 xB).2
      (cons_p (o4_15 r3) (cons_p hee (cons_p hee (one_p (o4_13 g0 (Nat.le_trans h1 e13.size))))))
    exact ⟨M3, bodyN_of (fnE 5 Tryz.f5) (by kernel_rfl) (by kernel_rfl) (a2.trans (b2.trans (b3.trans (b4.trans (b5.trans c9))))) (res5 ..), e13⟩
end
end Go.Proofs.YtipdeijgaabobaaGreatDoor
/-
  DiDataG: (DiData over laid globals) ARGUMENTS OF PLAIN DATA (bools, integers, strings, slices, structs, arrays of such): what a row's claim hands in ('DataW.trod') laid into the interpreter's memory, one block a slice.
-/
namespace Go.DI
open Go.RowKit Go.ChangeShapes Go.WideShapes

inductive Dt where
  | bo (b : Bool)
  | int (k : IntKind) (n : Int)
  | str (s : ByteArray)
  | nil
  | sl (l : List Dt) (cap : Nat)
  | ag (l : List Dt)

mutual
def Rep (m : Mem) : Dt → List Value → Prop
  | .bo b, cs => cs = [.bool b]
  | .int k n, cs => cs = [.int k n]
  | .str s, cs => cs = [.string s]
  | .nil, cs => cs = [.slice none 0 0]
  | .sl l cap, cs => ∃ b sp c, cs = [.slice (some ⟨b, 0, sp⟩) l.length cap] ∧ b < m.size ∧ m.get b = .cells false c ∧ Reps m l c ∧ (sp = none ∨ l = [] ∧ cap = 0)
  | .ag l, cs => Reps m l cs
def Reps (m : Mem) : List Dt → List Value → Prop
  | [], cs => cs = []
  | d :: l, cs => ∃ c1 c2, cs = c1 ++ c2 ∧ Rep m d c1 ∧ Reps m l c2
end

/-- Two lists, one by one. -/
def all2 {α β : Type} (R : α → β → Prop) : List α → List β → Prop
  | [], [] => True
  | a :: l, b :: l' => R a b ∧ all2 R l l'
  | _, _ => False
theorem all2_nil {α β : Type} {R : α → β → Prop} {l' : List β} (h : all2 R [] l') : l' = [] := by cases l' <;> simp_all [all2]
theorem all2_cons {α β : Type} {R : α → β → Prop} {a : α} {l : List α} {l' : List β} (h : all2 R (a :: l) l') : ∃ b t, l' = b :: t ∧ R a b ∧ all2 R l t := by
  cases l' with
  | nil => exact h.elim
  | cons b t => exact ⟨b, t, rfl, h.1, h.2⟩
theorem all2_replicate {α β : Type} {R : α → β → Prop} {a : α} : ∀ {n : Nat} {l : List β}, all2 R (List.replicate n a) l → l.length = n ∧ ∀ x ∈ l, R a x
  | 0, l, h => by rw [List.replicate_zero] at h; rw [all2_nil h]; simp
  | n + 1, l, h => by
    rw [List.replicate_succ] at h
    obtain ⟨b, t, rfl, h1, h2⟩ := all2_cons h
    obtain ⟨g1, g2⟩ := all2_replicate h2
    refine ⟨by simp [g1], fun x hx => ?_⟩
    rcases List.mem_cons.1 hx with rfl | hx
    · exact h1
    · exact g2 x hx

section
variable {P : Program}
def Typed (P : Program) : Nat → TypeId → Dt → Prop
  | 0, _, _ => False
  | n + 1, t, d => match P.underlying t with
    | some .bool => ∃ b, d = .bo b
    | some (.int k) => ∃ x, d = .int k x ∧ (Lit.int k x).wf = true
    | some .string => ∃ s, d = .str s ∧ s.size ≤ maxLen
    | some (.slice e) => d = .nil ∨ ∃ l cap, d = .sl l cap ∧ l.length ≤ cap ∧ cap ≤ maxLen ∧ ∀ x ∈ l, Typed P n e x
    | some (.struct fs) => ∃ l, d = .ag l ∧ all2 (fun f x => Typed P n f x) (fs.toList.map (·.type)) l
    | some (.array k e) => ∃ l, d = .ag l ∧ l.length = k ∧ ∀ x ∈ l, Typed P n e x
    | _ => False

def contig (P : Program) (tot : Nat) : Nat → List Field → Bool
  | off, [] => Nat.beq off tot
  | off, f :: l => Nat.beq f.offset off && contig P tot (off + P.cellsOf f.type) l
def dataT (P : Program) : Nat → TypeId → Bool
  | 0, _ => false
  | n + 1, t => match P.underlying t with
    | some .bool => true
    | some (.int _) => true
    | some .string => true
    | some (.slice e) => Nat.blt 0 (P.cellsOf e) && dataT P n e
    | some (.struct fs) => (fs.toList.all fun f => dataT P n f.type) && contig P (P.cellsOf t) 0 fs.toList
    | some (.array k e) => dataT P n e && Nat.beq (P.cellsOf t) (k * P.cellsOf e)
    | _ => false

/-- The memory of what was there: nothing of it one's own; no name kept for what is to come. -/
structure R0 (G B0 : Nat) (ι : Ren) (m : Mem) (w : World) : Prop where
  rel : Rel B0 G ι m w
  fresh : ∀ b, m.size ≤ b → ι b = none
  lo : G ≤ m.size

/-- More blocks, the others as they were. -/
structure MLe (ι ι' : Ren) (m m' : Mem) : Prop where
  ren : ι.le ι'
  size : m.size ≤ m'.size
  get : ∀ b, b < m.size → m'.get b = m.get b
theorem MLe.refl (ι : Ren) (m : Mem) : MLe ι ι m m := ⟨fun _ _ h => h, Nat.le_refl _, fun _ _ => rfl⟩
theorem MLe.trans {ι ι₁ ι₂ : Ren} {m m₁ m₂ : Mem} (h : MLe ι ι₁ m m₁) (k : MLe ι₁ ι₂ m₁ m₂) : MLe ι ι₂ m m₂ :=
  ⟨fun b L hb => k.ren _ _ (h.ren _ _ hb), Nat.le_trans h.size k.size, fun b hb => (k.get b (Nat.lt_of_lt_of_le hb h.size)).trans (h.get b hb)⟩

mutual
theorem Rep.ext {ι ι' : Ren} {m m' : Mem} (e : MLe ι ι' m m') : ∀ (d : Dt) (cs : List Value), Rep m d cs → Rep m' d cs
  | .bo _, _, h => by simpa only [Rep] using h
  | .int _ _, _, h => by simpa only [Rep] using h
  | .str _, _, h => by simpa only [Rep] using h
  | .nil, _, h => by simpa only [Rep] using h
  | .sl l cap, cs, h => by
    simp only [Rep] at h ⊢
    obtain ⟨b, sp, c, h1, h2, h3, h4, h5⟩ := h
    exact ⟨b, sp, c, h1, Nat.lt_of_lt_of_le h2 e.size, (e.get b h2).trans h3, Reps.ext e l c h4, h5⟩
  | .ag l, cs, h => by
    simp only [Rep] at h ⊢
    exact Reps.ext e l cs h
theorem Reps.ext {ι ι' : Ren} {m m' : Mem} (e : MLe ι ι' m m') : ∀ (l : List Dt) (cs : List Value), Reps m l cs → Reps m' l cs
  | [], _, h => by simpa only [Reps] using h
  | d :: l, cs, h => by
    simp only [Reps] at h ⊢
    obtain ⟨c1, c2, h1, h2, h3⟩ := h
    exact ⟨c1, c2, h1, Rep.ext e d c1 h2, Reps.ext e l c2 h3⟩
end

theorem R0.push {G B0 : Nat} {ι : Ren} {m : Mem} {w : World} (h : R0 G B0 ι m w) (c : List Value) (L : Loc) (hL : L.block < B0) (hb : BlkRel B0 ι (.cells false c) L w) :
    R0 G B0 (fun b => if b = m.size then some L else ι b) (m.push (.cells false c)) w ∧ MLe ι (fun b => if b = m.size then some L else ι b) m (m.push (.cells false c)) := by
  have hn := h.fresh m.size (Nat.le_refl _)
  have hle : ι.le (fun b => if b = m.size then some L else ι b) := by
    intro b L' hb
    have : b ≠ m.size := by intro e; rw [e, hn] at hb; cases hb
    simp [this, hb]
  have hr := h.rel
  refine ⟨⟨⟨fun b L' hb' hL' => ?_, fun b₁ b₂ L₁ L₂ h1 h2 h3 h4 l1 l2 g0 e => ?_, hr.floor, fun g hg => (by obtain ⟨L', h1, h2⟩ := hr.glob g hg; have := h.lo; exact ⟨L', by simp [show g ≠ m.size by omega, h1], h2⟩), fun b hb' => ?_⟩, fun b hb' => ?_, by have := h.lo; simp; omega⟩, ⟨hle, by simp, fun b hb' => Mem.get_push_ne _ (by omega) _⟩⟩
  · rw [Mem.get_push]
    by_cases e : b = m.size
    · subst e; simp at hL'; subst hL'; simpa using hb.mono hle rfl
    · simp only [e, if_false] at hL' ⊢
      simp at hb'
      exact (hr.blk b L' (by omega) hL').mono hle rfl
  · simp at h1 h2
    by_cases e1 : b₁ = m.size
    · simp [e1] at h3; subst h3; omega
    · by_cases e2 : b₂ = m.size
      · simp [e2] at h4; subst h4; omega
      · simp [e1] at h3; simp [e2] at h4
        rw [Mem.get_push_ne _ e1] at l1
        rw [Mem.get_push_ne _ e2] at l2
        exact hr.inj b₁ b₂ L₁ L₂ (by omega) (by omega) h3 h4 l1 l2 g0 e
  · simp at hb'; rw [Mem.get_push_ne _ (by omega)]; exact hr.top b (by omega)
  · simp at hb'
    have : b ≠ m.size := by omega
    simp only [this, if_false]
    exact h.fresh b (by omega)
/-- A block without a name (what lies nowhere). -/
theorem R0.blank {G B0 : Nat} {ι : Ren} {m : Mem} {w : World} (h : R0 G B0 ι m w) : R0 G B0 ι (m.push (.cells false [])) w ∧ MLe ι ι m (m.push (.cells false [])) := by
  have hn := h.fresh m.size (Nat.le_refl _)
  have hr := h.rel
  refine ⟨⟨⟨fun b L' hb' hL' => ?_, fun b₁ b₂ L₁ L₂ h1 h2 h3 h4 l1 l2 g0 e => ?_, hr.floor, fun g hg => hr.glob g hg, fun b hb' => ?_⟩, fun b hb' => h.fresh b (by simp at hb'; omega), by have := h.lo; simp; omega⟩, ⟨fun _ _ h => h, by simp, fun b hb' => Mem.get_push_ne _ (by omega) _⟩⟩
  · have e : b ≠ m.size := by intro e; rw [e, hn] at hL'; cases hL'
    simp at hb'
    rw [Mem.get_push_ne _ e]
    exact hr.blk b L' (by omega) hL'
  · have e1 : b₁ ≠ m.size := by intro e; rw [e, hn] at h3; cases h3
    have e2 : b₂ ≠ m.size := by intro e; rw [e, hn] at h4; cases h4
    simp at h1 h2
    rw [Mem.get_push_ne _ e1] at l1
    rw [Mem.get_push_ne _ e2] at l2
    exact hr.inj b₁ b₂ L₁ L₂ (by omega) (by omega) h3 h4 l1 l2 g0 e
  · simp at hb'; rw [Mem.get_push_ne _ (by omega)]; exact hr.top b (by omega)

/-- The memory of one laid variable. -/
theorem R0.start1 {w : World} {gl : List Value} {rc : Array Value} {e : TypeId} {fr : Nat × Nat} (h : w.heap[0]? = some (.cells rc e fr)) (hl : gl.length ≤ rc.size) (hc : ∀ (i : Nat) (v : Value), gl[i]? = some v → rc[i]? = some v ∧ ∀ ι, VRel ι v v) :
    R0 1 w.heap.size (fun b => if b = 0 then some ⟨0, 0, rc.size⟩ else none) (Kit.mG gl) w := by
  refine ⟨⟨fun b L hb hL => ?_, fun b₁ b₂ L₁ L₂ h1 h2 _ _ _ _ _ _ => ?_, Nat.le_refl _, fun g hg => ?_, Kit.mG_top gl⟩, fun b hb => ?_, by rw [Kit.mG_size]; exact Nat.le_refl _⟩
  · rw [Kit.mG_size] at hb
    obtain rfl : b = 0 := by omega
    rw [Kit.mG_get]
    simp at hL
    subst hL
    refine ⟨rc, e, fr, h, rfl, by simpa using hl, fun i v hv => ?_, fun ho => by cases ho⟩
    obtain ⟨q1, q2⟩ := hc i v hv
    exact ⟨v, by simpa using q1, q2 _⟩
  · rw [Kit.mG_size] at h1 h2; omega
  · obtain rfl : g = 0 := by omega
    exact ⟨⟨0, 0, rc.size⟩, by simp, rfl, rfl⟩
  · rw [Kit.mG_size] at hb
    simp [show b ≠ 0 by omega]
/-- What the claim reads of a datum. -/
inductive DRel {H : Type} : Dt → DataW H → Prop
  | bo (b : Bool) : DRel (.bo b) (.lit (.bool b))
  | int (k : IntKind) (n : Int) : DRel (.int k n) (.lit (.int k n))
  | str (s : ByteArray) : DRel (.str s) (.lit (.string s.data.toList))
  | nil : DRel .nil .nil
  | sl {l : List Dt} {cap : Nat} {elems rest : List (DataW H)} (hl : l.length = elems.length) (h : ∀ (i : Nat) (x : Dt) (y : DataW H), l[i]? = some x → elems[i]? = some y → DRel x y) : DRel (.sl l cap) (.slice elems rest)
  | ag {l : List Dt} {parts : List (DataW H)} (hl : l.length = parts.length) (h : ∀ (i : Nat) (x : Dt) (y : DataW H), l[i]? = some x → parts[i]? = some y → DRel x y) : DRel (.ag l) (.agg parts)
section
variable {H : Type} {enc : TypeId × Value → H} {w : World} {G B0 : Nat}
def Bound (B0 : Nat) (ps : List MemPlace) : Prop := ∀ p ∈ ps, p.block < B0
/-- What is said of a thing that comes in. -/
def Imp (G : Nat) (P : Program) (w : World) (B0 n : Nat) (t : TypeId) (cs : List Value × DataW H) : Prop :=
  ∀ (ι : Ren) (m : Mem), R0 G B0 ι m w → ∃ d ι' m' c', Typed P n t d ∧ DRel d cs.2 ∧ Rep m' d c' ∧ VRels ι' c' cs.1 ∧ R0 G B0 ι' m' w ∧ MLe ι ι' m m'

theorem imp_seq {n : Nat} : ∀ (ts : List TypeId) (css : List (List Value × DataW H)), all2 (fun t cs => Imp G P w B0 n t cs) ts css → ∀ (ι : Ren) (m : Mem), R0 G B0 ι m w →
    ∃ l ι' m' c', all2 (fun t d => Typed P n t d) ts l ∧ (l.length = css.length ∧ ∀ (i : Nat) (x : Dt) (y : List Value × DataW H), l[i]? = some x → css[i]? = some y → DRel x y.2) ∧ Reps m' l c' ∧ VRels ι' c' (css.map (·.1)).flatten ∧ R0 G B0 ι' m' w ∧ MLe ι ι' m m'
  | [], css, h, ι, m, hr => by
    rw [all2_nil h]
    exact ⟨[], ι, m, [], trivial, ⟨rfl, fun i x y hx => by simp at hx⟩, by simp [Reps], .nil, hr, MLe.refl _ _⟩
  | t :: ts, css, h, ι, m, hr => by
    obtain ⟨cs, css', rfl, h1, h2⟩ := all2_cons h
    obtain ⟨d, ι1, m1, c1, k1, kd, k2, k3, k4, k5⟩ := h1 ι m hr
    obtain ⟨l, ι2, m2, c2, g1, gd, g2, g3, g4, g5⟩ := imp_seq ts css' h2 ι1 m1 k4
    refine ⟨d :: l, ι2, m2, c1 ++ c2, ⟨k1, g1⟩, ⟨by simp [gd.1], fun i x y hx hy => ?_⟩, ?_, ?_, g4, k5.trans g5⟩
    · cases i with
      | zero => simp at hx hy; subst hx; subst hy; exact kd
      | succ i => exact gd.2 i x y (by simpa using hx) (by simpa using hy)
    · simp only [Reps]; exact ⟨c1, c2, rfl, Rep.ext g5 d c1 k2, g2⟩
    · rw [List.map_cons, List.flatten_cons]; exact (VRels.mono g5.ren k3).append g3

/-- Cells from an address on. -/
def Cells (w : World) (a : Addr) (l : List Value) : Prop := ∀ i, i < l.length → w.cell? (a.add i) = l[i]?
theorem Addr.add_block (a : Addr) (i : Nat) : (a.add i).block = a.block := by unfold Addr.add; split <;> rfl
theorem Addr.add_off (a : Addr) (i : Nat) : (a.add i).off = a.off + i := by
  unfold Addr.add
  split
  · rename_i h; simp [h]
  · rfl
theorem Addr.add_add (a : Addr) (i j : Nat) : (a.add i).add j = a.add (i + j) := by
  unfold Addr.add
  by_cases hi : i = 0
  · subst hi; simp
  · by_cases hj : j = 0
    · subst hj; simp [hi]
    · simp [hi, hj, Nat.add_assoc]
theorem Cells.append {a : Addr} {l l' : List Value} (h : Cells w a l) (k : Cells w (a.add l.length) l') : Cells w a (l ++ l') := by
  intro i hi
  rcases Nat.lt_or_ge i l.length with h1 | h1
  · rw [List.getElem?_append_left h1]; exact h i h1
  · rw [List.getElem?_append_right h1, ← k (i - l.length) (by simp at hi; omega), Addr.add_add, show l.length + (i - l.length) = i by omega]
theorem range_flat {a : Addr} {sz : Nat} (ch : Nat → List Value) : ∀ (n : Nat), (∀ i, i < n → (ch i).length = sz ∧ Cells w (a.add (i * sz)) (ch i)) → ((List.range n).map ch).flatten.length = n * sz ∧ Cells w a ((List.range n).map ch).flatten
  | 0, h => ⟨by simp, fun i hi => by simp at hi⟩
  | n + 1, h => by
    obtain ⟨h1, h2⟩ := range_flat ch n (fun i hi => h i (by omega))
    obtain ⟨h3, h4⟩ := h n (by omega)
    rw [List.range_succ, List.map_append, List.flatten_append]
    refine ⟨by simp [h1, h3, Nat.succ_mul], h2.append ?_⟩
    rw [h1]; simpa using h4

theorem cell_block {a : Addr} {v : Value} (h : w.cell? a = some v) : a.spot = none ∧ ∃ rc e fr, w.heap[a.block]? = some (.cells rc e fr) ∧ rc[a.off]? = some v := by
  unfold World.cell? at h
  split at h
  · rename_i c e fr hc
    split at h
    · cases h
    · rename_i hs
      refine ⟨by simpa using hs, c, e, fr, hc, h⟩
  · cases h

theorem drop_part (l : List Value) (off n tot : Nat) (h : l.length = tot) : (l.drop off).take n ++ l.drop (off + n) = l.drop off := by
  rw [← List.drop_drop, List.take_append_drop]

/-- A struct's cells are its fields' cells. -/
theorem fields_flat {cs : List Value} : ∀ (fs : List Field) (off : Nat), contig P cs.length off fs = true → off ≤ cs.length → (fs.map fun f => (cs.drop f.offset).take (P.cellsOf f.type)).flatten = cs.drop off
  | [], off, h, _ => by
    have := Nat.eq_of_beq_eq_true h
    subst this
    simp
  | f :: fs, off, h, ho => by
    simp only [contig, Bool.and_eq_true] at h
    have h1 := Nat.eq_of_beq_eq_true h.1
    have hle : off + P.cellsOf f.type ≤ cs.length := by
      clear ho h1
      have : ∀ (l : List Field) (o : Nat), contig P cs.length o l = true → o ≤ cs.length := by
        intro l
        induction l with
        | nil => intro o h; exact Nat.le_of_eq (Nat.eq_of_beq_eq_true h)
        | cons g l ih => intro o h; simp only [contig, Bool.and_eq_true] at h; have := ih _ h.2; omega
      exact this _ _ h.2
    have ih := fields_flat fs (off + P.cellsOf f.type) h.2 hle
    rw [List.map_cons, List.flatten_cons, ih, h1]
    exact drop_part cs off _ _ rfl
theorem chunks_flat {cs : List Value} {sz : Nat} : ∀ (n off : Nat), cs.length = off + n * sz → ((List.range n).map fun i => (cs.drop (off + i * sz)).take sz).flatten = cs.drop off
  | 0, off, h => by simp at h; subst h; simp
  | n + 1, off, h => by
    have ih := chunks_flat (cs := cs) (sz := sz) n (off + sz) (by rw [h, Nat.succ_mul]; omega)
    rw [List.range_succ_eq_map, List.map_cons, List.flatten_cons, List.map_map]
    have e : (List.range n).map ((fun i => (cs.drop (off + i * sz)).take sz) ∘ Nat.succ) = (List.range n).map fun i => (cs.drop (off + sz + i * sz)).take sz := by
      apply List.map_congr_left
      intro i _
      simp only [Function.comp]
      congr 2
      rw [Nat.succ_mul]; omega
    rw [e, ih]
    simp only [Nat.zero_mul, Nat.add_zero]
    exact drop_part cs off _ _ rfl

theorem all2_of_get {α β : Type} {R : α → β → Prop} : ∀ {l : List α} {l' : List β}, l.length = l'.length → (∀ (i : Nat) (a : α) (b : β), l[i]? = some a → l'[i]? = some b → R a b) → all2 R l l'
  | [], [], _, _ => trivial
  | [], _ :: _, h, _ => by simp at h
  | _ :: _, [], h, _ => by simp at h
  | a :: l, b :: l', h, k => ⟨k 0 a b rfl rfl, all2_of_get (by simpa using h) fun i x y hx hy => k (i + 1) x y (by simpa using hx) (by simpa using hy)⟩

set_option maxHeartbeats 1000000 in
theorem imp_trod : ∀ (n : Nat) (t : TypeId), dataT P n t = true → ∀ (fuel : Nat) (cs : List Value) (x : DataW H × List MemPlace), DataW.trod enc P w 0 (fun _ => true) true fuel t cs = some x → Bound B0 x.2 → Imp G P w B0 n t (cs, x.1)
  | 0, t, hd, _, _, _, _, _ => by simp [dataT] at hd
  | n + 1, t, hd, fuel, cs, x, h, hB => by
    intro ι m hr
    unfold dataT at hd
    split at hd
    · rename_i ht
      obtain ⟨b, rfl, rfl⟩ := DataW.trod_bool ht h
      exact ⟨.bo b, ι, m, [.bool b], by simp [Typed, ht], .bo b, by simp [Rep], .cons (.bool _) .nil, hr, MLe.refl _ _⟩
    · rename_i k ht
      obtain ⟨z, rfl, rfl, hw⟩ := DataW.trod_int ht h
      exact ⟨.int k z, ι, m, [.int k z], by simp [Typed, ht, hw], .int k z, by simp [Rep], .cons (.int _ _) .nil, hr, MLe.refl _ _⟩
    · rename_i ht
      obtain ⟨s, rfl, rfl, hs⟩ := DataW.trod_string ht h
      exact ⟨.str s, ι, m, [.string s], by simp [Typed, ht, hs], .str s, by simp [Rep], .cons (.string _) .nil, hr, MLe.refl _ _⟩
    · rename_i e ht
      simp only [Bool.and_eq_true] at hd
      have hpos : 0 < P.cellsOf e := by have := hd.1; simpa [Nat.blt_eq] using this
      rcases DataW.trod_slice ht h with ⟨rfl, rfl⟩ | ⟨a, len, cap, elems, rest, fu, _, rfl, rfl, _, hl, hm, hlen, hel, hsp, _⟩
      · exact ⟨.nil, ι, m, [.slice none 0 0], by simp [Typed, ht], .nil, by simp [Rep], .cons (.slc0 _ _) .nil, hr, MLe.refl _ _⟩
      obtain ⟨hrl, hre⟩ := hsp rfl
      have hcell : ∀ i, i < cap → ∃ y, (w.cells? 0 (a.add (i * P.cellsOf e)) (P.cellsOf e)).bind (DataW.trod enc P w 0 (fun _ => true) true fu e) = some y ∧ y ∈ elems ++ rest := by
        intro i hi
        by_cases h1 : i < len
        · rw [hel i h1]
          have h2 : i < elems.length := by omega
          exact ⟨elems[i], List.getElem?_eq_getElem h2, List.mem_append_left _ (List.getElem_mem h2)⟩
        · have h2 : i - len < rest.length := by omega
          have := hre (i - len) (by omega)
          rw [show len + (i - len) = i by omega] at this
          rw [this]
          exact ⟨rest[i - len], List.getElem?_eq_getElem h2, List.mem_append_right _ (List.getElem_mem h2)⟩
      by_cases hc0 : cap = 0
      · subst hc0
        obtain rfl : len = 0 := by omega
        obtain ⟨g1, g2⟩ := hr.blank
        refine ⟨.sl [] 0, ι, _, [.slice (some ⟨m.size, 0, some 1⟩) 0 0], ?_, .sl (by simp [hlen]) (fun i x y hx => by simp at hx), ?_, .cons (.empty _ _ _ _) .nil, g1, g2⟩
        · simp only [Typed, ht]; exact .inr ⟨[], 0, rfl, Nat.le_refl _, Nat.zero_le _, fun x hx => by simp at hx⟩
        · simp only [Rep]; exact ⟨m.size, some 1, [], rfl, by simp, Mem.get_push_same _ _, by simp [Reps], .inr (by simp)⟩
      -- the block
      have hab : a.block < B0 := by
        refine hB (.cell a.block (a.off + 0)) ?_
        refine List.mem_append_left _ ?_
        unfold MemPlace.row
        refine List.mem_map.2 ⟨0, List.mem_range.2 ?_, rfl⟩
        exact Nat.mul_pos (by omega) hpos
      have hchunk : ∀ i, i < cap → ∃ ch y, w.cells? 0 (a.add (i * P.cellsOf e)) (P.cellsOf e) = some ch ∧ ch.length = P.cellsOf e ∧ Cells w (a.add (i * P.cellsOf e)) ch ∧ DataW.trod enc P w 0 (fun _ => true) true fu e ch = some y ∧ y ∈ elems ++ rest := by
        intro i hi
        obtain ⟨y, hy, hmem⟩ := hcell i hi
        obtain ⟨ch, h1, h2⟩ := Option.bind_eq_some_iff.1 hy
        obtain ⟨_, h3, h4⟩ := World.cells?_some h1
        exact ⟨ch, y, h1, h3, fun j hj => h4 j (by omega), h2, hmem⟩
      obtain ⟨ch0, y0, _, z2, z3, _⟩ := hchunk 0 (by omega)
      have hfirst : ∃ v, w.cell? a = some v := by
        have := z3 0 (by omega)
        rw [Addr.add_add] at this
        have e0 : a.add (0 * P.cellsOf e + 0) = a := by simp [Addr.add]
        rw [e0] at this
        rw [this]
        exact ⟨ch0[0]'(by omega), List.getElem?_eq_getElem (by omega)⟩
      obtain ⟨v0, hv0⟩ := hfirst
      obtain ⟨hspot, rc, te, fr, hrc, hoff⟩ := cell_block hv0
      -- the elements
      let ch : Nat → List Value := fun i => (w.cells? 0 (a.add (i * P.cellsOf e)) (P.cellsOf e)).getD []
      have hch : ∀ i, i < len → (ch i).length = P.cellsOf e ∧ Cells w (a.add (i * P.cellsOf e)) (ch i) := by
        intro i hi
        obtain ⟨c1, y, h1, h2, h3, _⟩ := hchunk i (by omega)
        simp only [ch, h1, Option.getD_some]
        exact ⟨h2, h3⟩
      have himp : all2 (fun t cs => Imp G P w B0 n t cs) (List.replicate len e) ((List.range len).map fun i => (ch i, (elems.map (·.1)).getD i .nil)) := by
        refine all2_of_get (by simp) fun i t' c1 ht' hc1 => ?_
        have hi : i < len := by
          have := (List.getElem?_eq_some_iff.1 ht').1
          simpa using this
        simp only [List.getElem?_replicate, hi, if_true, Option.some.injEq] at ht'
        subst ht'
        obtain ⟨c2, y, h1, _, _, h4, h5⟩ := hchunk i (by omega)
        simp only [List.getElem?_map, List.getElem?_range hi, Option.map_some, ch, h1, Option.getD_some, Option.some.injEq] at hc1
        subst hc1
        have hy : elems[i]? = some y := by
          have := hel i hi
          rw [h1] at this
          simp only [Option.bind_some, h4] at this
          exact this.symm
        have hyd : (elems.map (·.1)).getD i .nil = y.1 := by simp [List.getD_eq_getElem?_getD, List.getElem?_map, hy]
        rw [hyd]
        refine imp_trod n e hd.2 fu c2 y h4 fun p hp => hB p ?_
        exact List.mem_append_right _ (List.mem_flatMap.2 ⟨y, h5, hp⟩)
      obtain ⟨l, ι1, m1, c1, g1, gd, g2, g3, g4, g5⟩ := imp_seq _ _ himp ι m hr
      have gm : (((List.range len).map fun i => (ch i, (elems.map (·.1)).getD i (.nil : DataW H))).map (·.1)) = (List.range len).map ch := by rw [List.map_map]; rfl
      rw [gm] at g3
      obtain ⟨f1, f2⟩ := range_flat (w := w) (a := a) (sz := P.cellsOf e) ch len hch
      obtain ⟨l1, l2⟩ := all2_replicate g1
      have hlc : c1.length = len * P.cellsOf e := by rw [g3.length, f1]
      have hsz : a.off + len * P.cellsOf e ≤ rc.size := by
        by_cases h0 : len * P.cellsOf e = 0
        · have := (Array.getElem?_eq_some_iff.1 hoff).1
          omega
        · have := f2 (len * P.cellsOf e - 1) (by omega)
          have h3 : len * P.cellsOf e - 1 < ((List.range len).map ch).flatten.length := by omega
          rw [List.getElem?_eq_getElem h3] at this
          obtain ⟨_, rc', _, _, q1, q2⟩ := cell_block this
          have e1 : (a.add (len * P.cellsOf e - 1)).block = a.block := Addr.add_block _ _
          rw [e1, hrc] at q1
          cases q1
          have e2 : (a.add (len * P.cellsOf e - 1)).off = a.off + (len * P.cellsOf e - 1) := Addr.add_off _ _
          rw [e2] at q2
          have := (Array.getElem?_eq_some_iff.1 q2).1
          omega
      have hblk : BlkRel B0 ι1 (.cells false c1) ⟨a.block, a.off, rc.size⟩ w := by
        refine ⟨rc, te, fr, hrc, rfl, by rw [hlc]; exact hsz, fun i v hv => ?_, fun h => by cases h⟩
        obtain ⟨v', hv', hrel⟩ := g3.get hv
        refine ⟨v', ?_, hrel⟩
        have hi : i < ((List.range len).map ch).flatten.length := (List.getElem?_eq_some_iff.1 hv').1
        have := f2 i hi
        rw [hv'] at this
        obtain ⟨_, rc', _, _, q1, q2⟩ := cell_block this
        have e1 : (a.add i).block = a.block := Addr.add_block _ _
        rw [e1, hrc] at q1
        cases q1
        rw [Addr.add_off] at q2
        exact q2
      obtain ⟨k1, k2⟩ := g4.push c1 ⟨a.block, a.off, rc.size⟩ hab hblk
      refine ⟨.sl l cap, _, _, [.slice (some ⟨m1.size, 0, none⟩) len cap], ?_, .sl (by rw [l1]; simp [hlen]) (fun i x y hx hy => ?_), ?_, .cons ?_ .nil, k1, g5.trans k2⟩
      · simp only [Typed, ht]; exact .inr ⟨l, cap, rfl, by omega, hm, l2⟩
      · have hi : i < len := by rw [← l1]; exact (List.getElem?_eq_some_iff.1 hx).1
        have := gd.2 i x (ch i, (elems.map (·.1)).getD i .nil) hx (by simp [List.getElem?_range hi])
        have hyd : (elems.map (·.1)).getD i .nil = y := by simp [List.getD_eq_getElem?_getD, hy]
        rw [hyd] at this; exact this
      · simp only [Rep]; exact ⟨m1.size, none, c1, by rw [l1], by simp, Mem.get_push_same _ _, Reps.ext k2 l c1 g2, .inl rfl⟩
      · have := VRel.slc (ι := fun b => if b = m1.size then some ⟨a.block, a.off, rc.size⟩ else ι1 b) m1.size 0 len cap ⟨a.block, a.off, rc.size⟩ (by simp)
        have ea : (⟨a.block, a.off + 0, none⟩ : Addr) = a := by cases a; simp at hspot; simp [hspot]
        rw [ea] at this
        exact this
    · rename_i fs ht
      simp only [Bool.and_eq_true] at hd
      obtain ⟨xs, fu, _, rfl, hlen, hxl, hx⟩ := DataW.trod_struct ht h
      have himp : all2 (fun t cs => Imp G P w B0 n t cs) (fs.toList.map (·.type)) ((fs.toList.zip (xs.map (·.1))).map fun p => ((cs.drop p.1.offset).take (P.cellsOf p.1.type), p.2)) := by
        refine all2_of_get (by simp [hxl]) fun i t' c1 ht' hc1 => ?_
        rw [List.getElem?_map] at ht' hc1
        obtain ⟨f, hf, rfl⟩ := Option.map_eq_some_iff.1 ht'
        obtain ⟨p, hp, rfl⟩ := Option.map_eq_some_iff.1 hc1
        obtain ⟨hp1, hp2⟩ := List.getElem?_zip_eq_some.1 hp
        rw [hf] at hp1
        obtain rfl : f = p.1 := Option.some.inj hp1
        have hf' : fs[i]? = some p.1 := by simpa using hf
        have hi : i < xs.length := by rw [hxl]; exact (Array.getElem?_eq_some_iff.1 hf').1
        have h1 := hx i p.1 hf'
        rw [List.getElem?_eq_getElem hi] at h1
        rw [List.getElem?_map, List.getElem?_eq_getElem hi] at hp2
        simp only [Option.map_some, Option.some.injEq] at hp2
        rw [← hp2]
        refine imp_trod n p.1.type (List.all_eq_true.1 hd.1 p.1 (List.mem_of_getElem? hf)) fu _ xs[i] h1 fun y hy => hB y ?_
        exact List.mem_flatMap.2 ⟨xs[i], List.getElem_mem hi, hy⟩
      obtain ⟨l, ι1, m1, c1, g1, gd, g2, g3, g4, g5⟩ := imp_seq _ _ himp ι m hr
      have gm : ((fs.toList.zip (xs.map (·.1))).map fun p => ((cs.drop p.1.offset).take (P.cellsOf p.1.type), p.2)).map (·.1) = fs.toList.map fun f => (cs.drop f.offset).take (P.cellsOf f.type) := by
        rw [List.map_map]
        have e : (fs.toList.zip (xs.map (·.1))).map (fun p => p.1) = fs.toList := List.map_fst_zip (by simp [hxl])
        conv => rhs; rw [← e, List.map_map]
        rfl
      rw [gm, fields_flat fs.toList 0 (by rw [hlen]; exact hd.2) (Nat.zero_le _), List.drop_zero] at g3
      refine ⟨.ag l, ι1, m1, c1, ?_, .ag (by rw [gd.1]; simp [hxl]) (fun i x y hx hy => ?_), ?_, g3, g4, g5⟩
      · simp only [Typed, ht]; exact ⟨l, rfl, g1⟩
      · have hi : i < fs.toList.length := by have := (List.getElem?_eq_some_iff.1 hx).1; rw [gd.1] at this; simp at this; simp; omega
        exact gd.2 i x ((cs.drop fs.toList[i].offset).take (P.cellsOf fs.toList[i].type), y) hx (by rw [List.getElem?_map, (List.getElem?_zip_eq_some (z := (fs.toList[i], y))).2 ⟨List.getElem?_eq_getElem hi, hy⟩]; rfl)
      · simp only [Rep]; exact g2
    · rename_i k e ht
      simp only [Bool.and_eq_true] at hd
      obtain ⟨xs, fu, _, rfl, hlen, hxl, hx⟩ := DataW.trod_array ht h
      have himp : all2 (fun t cs => Imp G P w B0 n t cs) (List.replicate k e) ((List.range k).map fun i => ((cs.drop (0 + i * P.cellsOf e)).take (P.cellsOf e), (xs.map (·.1)).getD i .nil)) := by
        refine all2_of_get (by simp) fun i t' c1 ht' hc1 => ?_
        have hi : i < k := by
          have := (List.getElem?_eq_some_iff.1 ht').1
          simpa using this
        simp only [List.getElem?_replicate, hi, if_true, Option.some.injEq] at ht'
        subst ht'
        simp only [List.getElem?_map, List.getElem?_range hi, Option.map_some, Option.some.injEq, Nat.zero_add] at hc1
        subst hc1
        have h1 := hx i hi
        have hi' : i < xs.length := by omega
        rw [List.getElem?_eq_getElem hi'] at h1
        have hyd : (xs.map (·.1)).getD i .nil = xs[i].1 := by simp [List.getD_eq_getElem?_getD, List.getElem?_map, List.getElem?_eq_getElem hi']
        rw [hyd]
        refine imp_trod n e hd.1 fu _ xs[i] h1 fun p hp => hB p ?_
        exact List.mem_flatMap.2 ⟨xs[i], List.getElem_mem hi', hp⟩
      obtain ⟨l, ι1, m1, c1, g1, gd, g2, g3, g4, g5⟩ := imp_seq _ _ himp ι m hr
      obtain ⟨l1, l2⟩ := all2_replicate g1
      have gm : ((List.range k).map fun i => ((cs.drop (0 + i * P.cellsOf e)).take (P.cellsOf e), (xs.map (·.1)).getD i (.nil : DataW H))).map (·.1) = (List.range k).map fun i => (cs.drop (0 + i * P.cellsOf e)).take (P.cellsOf e) := by rw [List.map_map]; rfl
      rw [gm, chunks_flat k 0 (by rw [hlen, Nat.eq_of_beq_eq_true hd.2, Nat.zero_add]), List.drop_zero] at g3
      refine ⟨.ag l, ι1, m1, c1, ?_, .ag (by rw [l1]; simp [hxl]) (fun i x y hx hy => ?_), ?_, g3, g4, g5⟩
      · simp only [Typed, ht]; exact ⟨l, rfl, l1, l2⟩
      · have hi : i < k := by rw [← l1]; exact (List.getElem?_eq_some_iff.1 hx).1
        have := gd.2 i x ((cs.drop (0 + i * P.cellsOf e)).take (P.cellsOf e), (xs.map (·.1)).getD i .nil) hx (by simp [List.getElem?_range hi])
        have hyd : (xs.map (·.1)).getD i .nil = y := by simp [List.getD_eq_getElem?_getD, hy]
        rw [hyd] at this; exact this
      · simp only [Rep]; exact g2
    · cases hd

/-! ### arguments -/
/-- A value of the interpreter that holds a datum. -/
def Arg (P : Program) (m : Mem) (t : TypeId) (d : Dt) (v : Value) : Prop :=
  match aggB P t with
  | some true => ∃ c, v = .agg ⟨c⟩ ∧ Rep m d c
  | _ => Rep m d [v]
def Args (P : Program) (n : Nat) (m : Mem) : List TypeId → List Dt → List Value → Prop
  | [], [], [] => True
  | t :: ts, d :: ds, v :: vs => Typed P n t d ∧ Arg P m t d v ∧ Args P n m ts ds vs
  | _, _, _ => False
theorem Arg.ext {ι ι' : Ren} {m m' : Mem} (e : MLe ι ι' m m') {t : TypeId} {d : Dt} {v : Value} (h : Arg P m t d v) : Arg P m' t d v := by
  unfold Arg at h ⊢
  split
  · rename_i ht
    rw [ht] at h
    obtain ⟨c, h1, h2⟩ := h
    exact ⟨c, h1, Rep.ext e d c h2⟩
  · rename_i ht
    split at h
    · rename_i ht'; exact absurd ht' ht
    · exact Rep.ext e d _ h

/-- An argument's shape, by its type. -/
def shapeOk (P : Program) (t : TypeId) (v : Value) : Prop := match aggB P t with | some true => ∃ cs, v = .agg cs | _ => v.cells.toList = [v]
theorem shape_of {n : Nat} {t : TypeId} {v : Value} {r : Reach} {b : Nat} (hd : dataT P n t = true) (h : Value.okWide P w r b t v) : shapeOk P t v := by
  cases n with
  | zero => simp [dataT] at hd
  | succ n =>
    unfold dataT at hd
    unfold shapeOk aggB
    unfold Value.okWide at h
    split at hd
    all_goals first
      | (rename_i ht; rw [ht] at h ⊢; simp only at h ⊢; obtain ⟨cs, h1, _⟩ := h; exact ⟨cs, h1⟩)
      | (rename_i ht; rw [ht] at h ⊢; simp only [Cell.okWide, ht] at h; cases v <;> simp_all [Cell.ok, Value.cells])
      | cases hd

theorem imp_args {n : Nat} : ∀ (ts : List TypeId) (vs : List Value) (ds : List (DataW H)) (ps : List MemPlace), (ts.all fun t => dataT P n t) = true → DataW.TrodAll enc P w 0 (fun _ => true) true ts vs ds ps →
    (∀ (j : Nat) t v, ts[j]? = some t → vs[j]? = some v → shapeOk P t v) → Bound B0 ps → ∀ (ι : Ren) (m : Mem), R0 G B0 ι m w →
    ∃ l ι' m' vs', Args P n m' ts l vs' ∧ (l.length = ds.length ∧ ∀ (i : Nat) (x : Dt) (y : DataW H), l[i]? = some x → ds[i]? = some y → DRel x y) ∧ VRels ι' vs' vs ∧ R0 G B0 ι' m' w ∧ MLe ι ι' m m'
  | [], vs, ds, ps, _, h, _, _, ι, m, hr => by
    obtain ⟨rfl, rfl, rfl⟩ := trodAll_nil h
    exact ⟨[], ι, m, [], trivial, ⟨rfl, fun i x y hx => by simp at hx⟩, .nil, hr, MLe.refl _ _⟩
  | t :: ts, vs, ds, ps, hd, h, hs, hB, ι, m, hr => by
    obtain ⟨v, vs', d, ds', p, q, rfl, rfl, rfl, ⟨fuel, h1⟩, h2⟩ := trodAll_cons h
    simp only [List.all_cons, Bool.and_eq_true] at hd
    obtain ⟨d1, ι1, m1, c1, k1, kd, k2, k3, k4, k5⟩ := imp_trod n t hd.1 fuel _ _ h1 (fun x hx => hB x (List.mem_append_left _ hx)) ι m hr
    obtain ⟨l, ι2, m2, vs2, g1, gd, g2, g3, g4⟩ := imp_args ts vs' ds' q hd.2 h2 (fun j t v ht hv => hs (j + 1) t v (by simpa using ht) (by simpa using hv)) (fun x hx => hB x (List.mem_append_right _ hx)) ι1 m1 k4
    have hsh := hs 0 t v rfl rfl
    have key : ∃ v1, Arg P m1 t d1 v1 ∧ VRel ι1 v1 v := by
      unfold shapeOk at hsh
      unfold Arg
      split at hsh
      · rename_i ht
        obtain ⟨cs, rfl⟩ := hsh
        refine ⟨.agg ⟨c1⟩, ⟨c1, rfl, k2⟩, ?_⟩
        have := VRel.agg' (ι := ι1) k3
        simpa [Value.cells] using this
      · rename_i ht
        rw [hsh] at k3
        cases k3 with
        | cons k3 k3' =>
          cases k3'
          rename_i v1
          exact ⟨v1, k2, k3⟩
    obtain ⟨v1, q1, q2⟩ := key
    exact ⟨d1 :: l, ι2, m2, v1 :: vs2, ⟨k1, Arg.ext g4 q1, g1⟩, ⟨by simp [gd.1], fun i x y hx hy => by
      cases i with
      | zero => simp at hx hy; subst hx; subst hy; exact kd
      | succ i => exact gd.2 i x y (by simpa using hx) (by simpa using hy)⟩, .cons (q2.mono g4.ren) g2, g3, k5.trans g4⟩


theorem trodAll_below (hl : laidOutB P = true) : ∀ {ts : List TypeId} {vs : List Value} {ds : List (DataW H)} {ps : List MemPlace} {W' : World}, (ts.all fun t => P.readableRec t && decide (t < P.types.size)) = true →
    DataW.TrodAll enc P w 0 (fun _ => true) true ts vs ds ps → Below w.heap.size w W' → Bound w.heap.size ps → DataW.TrodAll enc P W' 0 (fun b => decide (b < w.heap.size)) true ts vs ds ps
  | [], vs, ds, ps, W', _, h, _, _ => by
    obtain ⟨rfl, rfl, rfl⟩ := trodAll_nil h
    rfl
  | t :: ts, vs, ds, ps, W', hr, h, hb, hB => by
    obtain ⟨v, vs', d, ds', p, q, rfl, rfl, rfl, h1, h2⟩ := trodAll_cons h
    simp only [List.all_cons, Bool.and_eq_true] at hr
    exact ⟨p, q, Below.trod hl hr.1.1 (of_decide_eq_true hr.1.2) h1 hb (fun x hx => hB x (List.mem_append_left _ hx)),
      trodAll_below hl hr.2 h2 hb (fun x hx => hB x (List.mem_append_right _ hx)), rfl⟩
theorem bound_of : ∀ {ts : List TypeId} {vs : List Value} {ds : List (DataW H)} {ps : List MemPlace}, DataW.TrodAll enc P w 0 (fun _ => true) true ts vs ds ps → Bound w.heap.size ps
  | [], vs, ds, ps, h => by
    obtain ⟨rfl, rfl, rfl⟩ := trodAll_nil h
    intro p hp; simp at hp
  | t :: ts, vs, ds, ps, h => by
    obtain ⟨v, vs', d, ds', p, q, rfl, rfl, rfl, ⟨m, hm⟩, h2⟩ := trodAll_cons h
    intro x hx
    rcases List.mem_append.1 hx with hx | hx
    · exact DataW.trod_lt m _ _ _ hm x hx
    · exact bound_of h2 x hx
end
end
end Go.DI
/-
  DiDataH: the walk of a law over plain data, the run by any interpreter that is sound.
-/
namespace Go.DI
open Go Go.RowKit Go.ChangeShapes Go.WideShapes
section
variable {H : Type} {enc : TypeId × Value → H} {P : Program} {w : World} {G : Nat}
theorem calls_dataH {n : Nat} {f : FuncId} {ts : List TypeId} {args : Array Value} {ds : List (DataW H)} {ps : List MemPlace} {ι0 : Ren} {mm : Mem}
    (h0 : R0 G w.heap.size ι0 mm w)
    (hd : (ts.all fun t => dataT P n t) = true) (hA : DataW.TrodAll enc P w 0 (fun _ => true) true ts args.toList ds ps) {r : Reach} {b : Nat}
    (hval : ∀ (j : Nat) t v, ts[j]? = some t → args[j]? = some v → Value.okWide P w r b t v) (hB : Bound w.heap.size ps)
    (run : ∀ (m : Mem) (l : List Dt) (vs : List Value), m.top → mm.size ≤ m.size → (∀ b, b < mm.size → m.get b = mm.get b) → Args P n m ts l vs → (l.length = ds.length ∧ ∀ (i : Nat) (x : Dt) (y : DataW H), l[i]? = some x → ds[i]? = some y → DRel x y) → ∃ R : DFun, CfOK P w.heap.size G R ∧ ∃ m', R f vs m = some (.bool true, m')) :
    Calls P f args w fun e w' => e = .returned (.bool true) ∧ Below w.heap.size w w' := by
  obtain ⟨l, ι, m, vs, h1, hdr, h2, h3, h4⟩ := imp_args ts args.toList ds ps hd hA (fun j t v ht hv => shape_of (List.all_eq_true.1 hd t (List.mem_of_getElem? ht)) (hval j t v ht (by simpa using hv))) hB _ _ h0
  obtain ⟨R, hR, m', hrun⟩ := run m l vs h3.rel.top h4.size h4.get h1 hdr
  have := hR.ok _ _ _ _ _ hrun ι w args.toList h3.rel (fun b hb _ => h3.fresh b hb) h2
  have ea : args.toList.toArray = args := by simp
  rw [ea] at this
  refine this.mono ?_
  rintro e w' ⟨v', ι', he, hv', hr', hs⟩
  exact ⟨by rw [he, hv'.inv_bool], ⟨hs.os, hs.tape, hs.output, hs.hsize, fun B hB => hs.below h3.rel B hB⟩⟩
end
end Go.DI
/-
  FData: the points that come in.
-/
namespace Go.Proofs.YtipdeijgaabobaaGreatDoor
open Go Go.DI Go.DI.Kit Go.Proofs Go.Crt
noncomputable section
set_option maxRecDepth 100000
theorem typed_int {P : Program} {n : Nat} {t : TypeId} {k : IntKind} (ht : P.underlying t = some (.int k)) {d : Dt} (h : Typed P (n + 1) t d) : ∃ x, d = .int k x ∧ (Lit.int k x).wf = true := by
  simpa only [Typed, ht] using h
theorem typed_bool {P : Program} {n : Nat} {t : TypeId} (ht : P.underlying t = some .bool) {d : Dt} (h : Typed P (n + 1) t d) : ∃ x, d = .bo x := by
  simpa only [Typed, ht] using h
/-- A thing that is its cells. -/
def Opn {A : Type} (n : Nat) (t : TypeId) (g : A → List Value) : Prop := ∀ d, Typed Tryz.prog n t d → ∃ a : A, ∀ (m : Mem) (cs : List Value), Rep m d cs → cs = g a
theorem opn_list {A : Type} {n : Nat} {t : TypeId} {g : A → List Value} (h : Opn n t g) : ∀ (l : List Dt), (∀ x ∈ l, Typed Tryz.prog n t x) → ∃ as' : List A, as'.length = l.length ∧ ∀ (m : Mem) (cs : List Value), Reps m l cs → cs = as'.flatMap g
  | [], _ => ⟨[], rfl, fun m cs h => by simpa [Reps] using h⟩
  | d :: l, hl => by
    obtain ⟨a, h1⟩ := h d (hl d (by simp))
    obtain ⟨r, h2, h3⟩ := opn_list h l fun x hx => hl x (by simp [hx])
    refine ⟨a :: r, by simp [h2], fun m cs hc => ?_⟩
    simp only [Reps] at hc
    obtain ⟨c1, c2, rfl, g1, g2⟩ := hc
    rw [h1 m c1 g1, h3 m c2 g2]; rfl
theorem und2 : Tryz.prog.underlying 2 = some (.int .i64) := by kernel_rfl
theorem opn_u64 (n : Nat) : Opn (n + 1) 33 (fun x : U => [.int .u64 (x.toNat : Int)]) := fun d h => by
  obtain ⟨x, rfl, hx⟩ := typed_int Tryz.underlying33 h
  refine ⟨BitVec.ofNat 64 x.toNat, fun m cs hc => ?_⟩
  simp [Lit.wf] at hx
  have e1 : IntKind.u64.min = 0 := rfl
  have e2 : IntKind.u64.max = 18446744073709551615 := rfl
  rw [e1, e2] at hx
  simp only [Rep] at hc
  rw [hc]
  show _ = [Value.int .u64 ((BitVec.ofNat 64 x.toNat).toNat : Int)]
  rw [BitVec.toNat_ofNat, Nat.mod_eq_of_lt (by omega), Int.toNat_of_nonneg hx.1]
theorem opn_two {n : Nat} {t : TypeId} (hu : ∃ fs, Tryz.prog.underlying t = some (.struct fs) ∧ fs.toList.map (·.type) = [33, 33]) : Opn (n + 2) t (fun x : U × U => [.int .u64 (x.1.toNat : Int), .int .u64 (x.2.toNat : Int)]) := fun d h => by
  obtain ⟨fs, hu, hf⟩ := hu
  unfold Typed at h
  rw [hu] at h
  obtain ⟨l, rfl, h⟩ := h
  rw [hf] at h
  obtain ⟨d0, l, rfl, h0, h⟩ := all2_cons h
  obtain ⟨d1, l, rfl, h1, h⟩ := all2_cons h
  have hnil := all2_nil h
  subst hnil
  obtain ⟨a, g0⟩ := opn_u64 n d0 h0
  obtain ⟨b, g1⟩ := opn_u64 n d1 h1
  refine ⟨(a, b), fun m cs hc => ?_⟩
  simp only [Rep, Reps] at hc
  obtain ⟨c1, c2, rfl, k1, c3, c4, rfl, k2, rfl⟩ := hc
  rw [g0 m _ k1, g1 m _ k2]; rfl
theorem opn_sc (n : Nat) : Opn (n + 3) 39 scC := fun d h => by
  unfold Typed at h
  rw [Tryz.underlying39] at h
  obtain ⟨l, rfl, h⟩ := h
  simp only [List.map_cons, List.map_nil] at h
  obtain ⟨d0, l, rfl, h0, h⟩ := all2_cons h
  obtain ⟨d1, l, rfl, h1, h⟩ := all2_cons h
  have hnil := all2_nil h
  subst hnil
  obtain ⟨a, g0⟩ := opn_two ⟨_, Tryz.underlying35, rfl⟩ d0 h0
  obtain ⟨b, g1⟩ := opn_two ⟨_, Tryz.underlying37, rfl⟩ d1 h1
  refine ⟨⟨a.1, a.2, b.1, b.2⟩, fun m cs hc => ?_⟩
  simp only [Rep, Reps] at hc
  obtain ⟨c1, c2, rfl, k1, c3, c4, rfl, k2, rfl⟩ := hc
  rw [g0 m _ k1, g1 m _ k2]; rfl
theorem opn_rg (n : Nat) : Opn (n + 4) 41 rgC := fun d h => by
  unfold Typed at h
  rw [Tryz.underlying41] at h
  obtain ⟨l, rfl, h⟩ := h
  simp only [List.map_cons, List.map_nil] at h
  obtain ⟨d0, l, rfl, h0, h⟩ := all2_cons h
  obtain ⟨d1, l, rfl, h1, h⟩ := all2_cons h
  obtain ⟨d2, l, rfl, h2, h⟩ := all2_cons h
  obtain ⟨d3, l, rfl, h3, h⟩ := all2_cons h
  obtain ⟨d4, l, rfl, h4, h⟩ := all2_cons h
  obtain ⟨d5, l, rfl, h5, h⟩ := all2_cons h
  have hnil := all2_nil h
  subst hnil
  obtain ⟨ki, rfl, _⟩ := typed_int Tryz.underlying5 h0
  obtain ⟨le, rfl⟩ := typed_bool Tryz.underlying4 h1
  obtain ⟨mp, rfl, _⟩ := typed_int Tryz.underlying3 h2
  obtain ⟨s, g3⟩ := opn_sc n d3 h3
  obtain ⟨a, rfl, _⟩ := typed_int und2 h4
  obtain ⟨b, rfl, _⟩ := typed_int und2 h5
  refine ⟨⟨ki, le, mp, s, a, b⟩, fun m cs hc => ?_⟩
  simp only [Rep, Reps] at hc
  obtain ⟨_, _, rfl, rfl, _, _, rfl, rfl, _, _, rfl, rfl, _, _, rfl, k3, _, _, rfl, rfl, _, _, rfl, rfl, rfl⟩ := hc
  rw [g3 m _ k3]; rfl
theorem opn_sl (n : Nat) : Opn (n + 5) 44 slC := fun d h => by
  unfold Typed at h
  rw [Tryz.underlying44] at h
  obtain ⟨l, rfl, h⟩ := h
  simp only [List.map_cons, List.map_nil] at h
  obtain ⟨d0, l, rfl, h0, h⟩ := all2_cons h
  obtain ⟨d1, l, rfl, h1, h⟩ := all2_cons h
  have hnil := all2_nil h
  subst hnil
  obtain ⟨x, rfl, hx⟩ := typed_int Tryz.underlying5 h0
  obtain ⟨r, g1⟩ := opn_rg n d1 h1
  refine ⟨⟨BitVec.ofNat 8 x.toNat, r⟩, fun m cs hc => ?_⟩
  simp [Lit.wf] at hx
  have e1 : IntKind.u8.min = 0 := rfl
  have e2 : IntKind.u8.max = 255 := rfl
  rw [e1, e2] at hx
  simp only [Rep, Reps] at hc
  obtain ⟨_, _, rfl, rfl, _, _, rfl, k1, rfl⟩ := hc
  rw [g1 m _ k1, List.append_nil]
  show _ = Value.int .u8 ((BitVec.ofNat 8 x.toNat).toNat : Int) :: rgC r
  rw [BitVec.toNat_ofNat, Nat.mod_eq_of_lt (by omega), Int.toNat_of_nonneg hx.1]; rfl
theorem opn_st (n : Nat) : Opn (n + 7) 47 (fun s : { s : Stt // s.Ok } => stC s.1) := fun d h => by
  unfold Typed at h
  rw [Tryz.underlying47] at h
  obtain ⟨l, rfl, h⟩ := h
  simp only [List.map_cons, List.map_nil] at h
  obtain ⟨d0, l, rfl, h0, h⟩ := all2_cons h
  obtain ⟨d1, l, rfl, h1, h⟩ := all2_cons h
  obtain ⟨d2, l, rfl, h2, h⟩ := all2_cons h
  have hnil := all2_nil h
  subst hnil
  unfold Typed at h0 h1
  rw [Tryz.underlying42] at h0
  rw [Tryz.underlying45] at h1
  obtain ⟨l0, rfl, n0, h0⟩ := h0
  obtain ⟨l1, rfl, n1, h1⟩ := h1
  obtain ⟨rs, q0, g0⟩ := opn_list (opn_rg (n + 1)) l0 h0
  obtain ⟨xs, q1, g1⟩ := opn_list (opn_sl n) l1 h1
  obtain ⟨pk, rfl, _⟩ := typed_int Tryz.underlying3 h2
  refine ⟨⟨⟨rs, xs, pk⟩, ⟨q0.trans n0, q1.trans n1⟩⟩, fun m cs hc => ?_⟩
  simp only [Rep, Reps] at hc
  obtain ⟨_, _, rfl, k0, _, _, rfl, k1, _, _, rfl, rfl, rfl⟩ := hc
  rw [g0 m _ k0, g1 m _ k1]; rfl
theorem opn_pt (n : Nat) : Opn (n + 8) 62 gP := fun d h => by
  unfold Typed at h
  rw [Tryz.underlying62] at h
  obtain ⟨l, rfl, h⟩ := h
  simp only [List.map_cons, List.map_nil] at h
  obtain ⟨d0, l, rfl, h0, h⟩ := all2_cons h
  obtain ⟨d1, l, rfl, h1, h⟩ := all2_cons h
  have hnil := all2_nil h
  subst hnil
  obtain ⟨x, rfl, _⟩ := typed_int Tryz.underlying3 h0
  obtain ⟨s, g1⟩ := opn_st n d1 h1
  refine ⟨⟨⟨x, s.1⟩, s.2⟩, fun m cs hc => ?_⟩
  simp only [Rep, Reps] at hc
  obtain ⟨_, _, rfl, rfl, _, _, rfl, k1, rfl⟩ := hc
  rw [g1 m _ k1, List.append_nil]; rfl
/-- The argument: points. -/
theorem points_arg {m : Mem} {d : Dt} {v : Value} (h : Typed Tryz.prog 9 55 d) (ha : Arg Tryz.prog m 55 d v) : ∃ ps : List PO, PtsAt m v ps := by
  have hag : aggB Tryz.prog 55 = some false := by kernel_rfl
  unfold Arg at ha
  rw [hag] at ha
  simp only at ha
  unfold Typed at h
  rw [Tryz.underlying55] at h
  rcases h with rfl | ⟨l, cap, rfl, hle, _, hl⟩
  · simp only [Rep] at ha
    have hv : v = .slice none 0 0 := by simpa using ha
    exact ⟨[], none, 0, hv, fun h0 => absurd rfl h0⟩
  · simp only [Rep] at ha
    obtain ⟨b, sp, c, h1, h2, h3, h4, h5⟩ := ha
    obtain ⟨ps, g1, g2⟩ := opn_list (opn_pt 0) l hl
    have hv : v = .slice (some ⟨b, 0, sp⟩) l.length cap := by simpa using h1
    refine ⟨ps, some ⟨b, 0, sp⟩, cap, by rw [hv, g1], fun _ => ⟨b, sp, false, [], rfl, h2, ?_⟩⟩
    rw [List.append_nil, ← g2 m c h4]
    exact h3
theorem args_nil {P : Program} {n : Nat} {m : Mem} {l : List Dt} {vs : List Value} (h : Args P n m [] l vs) : l = [] ∧ vs = [] := by
  cases l <;> cases vs <;> simp_all [Args]
theorem args_cons {P : Program} {n : Nat} {m : Mem} {t : TypeId} {ts : List TypeId} {l : List Dt} {vs : List Value} (h : Args P n m (t :: ts) l vs) : ∃ d l' v vs', l = d :: l' ∧ vs = v :: vs' ∧ Typed P n t d ∧ Arg P m t d v ∧ Args P n m ts l' vs' := by
  cases l with
  | nil => cases vs <;> simp [Args] at h
  | cons d l =>
    cases vs with
    | nil => simp [Args] at h
    | cons v vs => exact ⟨d, l, v, vs, rfl, rfl, h.1, h.2.1, h.2.2⟩
theorem args1 {P : Program} {n : Nat} {m : Mem} {t : TypeId} {l : List Dt} {vs : List Value} (h : Args P n m [t] l vs) : ∃ d v, l = [d] ∧ vs = [v] ∧ Typed P n t d ∧ Arg P m t d v := by
  obtain ⟨d, l, v, vs, rfl, rfl, h1, h2, h⟩ := args_cons h
  obtain ⟨rfl, rfl⟩ := args_nil h
  exact ⟨d, v, rfl, rfl, h1, h2⟩
end
end Go.Proofs.YtipdeijgaabobaaGreatDoor
