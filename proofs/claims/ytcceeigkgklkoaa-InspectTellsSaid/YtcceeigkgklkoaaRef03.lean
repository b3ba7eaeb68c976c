/- viaticumref03: the document's readers and bytes. -/
import Derived.Test.YtcceeigkgklkoaaField2
namespace Go.Proofs.Ytcceeigkgklkoaa
open Go.RowKit

def RdR (w : World) (g : Nat) (b : List UInt8) (p bad : Nat) : Prop := ∃ A c, Box w g 80 #[.slice A b.length c, .int .i64 (p : Int), .int .i64 (bad : Int)] ∧ IsB w (.slice A b.length c) b ∧ p ≤ b.length
theorem RdR.old {w w' : World} {g : Nat} {b : List UInt8} {p bad : Nat} (h : RdR w g b p bad) (hb : Old w w') : RdR w' g b p bad := by
  obtain ⟨A, c, h1, h2, h3⟩ := h
  exact ⟨A, c, h1.old hb, h2.old hb, h3⟩
theorem R3_Read (b : List UInt8) (v : Value) (w : World) (hv : IsB w v b) :
    Calls Try.prog 17 #[v] w fun e w' => ∃ v, e = .returned v ∧ v = .pointer (some ⟨w.heap.size, 0, none⟩) ∧ RdR w' w.heap.size b 0 0 ∧ Old w w' := by
  obtain ⟨A, c, rfl⟩ := hv.lay
  refine enter (l := [_]) 6 Try.func17 rfl rfl (by simp) ?_
  refine w_sreg (wl_v (aP rfl) <| wl_end ?_)
  refine w_sreg (wl_v (mS rfl) <| wl_v (ex_build #[.slice A b.length c, .int .i64 0, .int .i64 0] (by kernel_rfl)) <| wl_v (ex_box rfl rfl) <| wl_v (aP rfl) <| wl_end ?_)
  exact w_ret (end1 rfl ⟨_, rfl, rfl, ⟨A, c, Box.new _ _ _, hv.old ((Old.refl w).alloc _), Nat.zero_le _⟩, (Old.refl w).alloc _⟩)
/-- What raw returns and keeps. -/
def rawV (b : List UInt8) (p bad : Nat) : Nat × Nat × Nat := if bad ≠ 0 then (0, 0, bad) else takev (b.drop p)
theorem R3_raw (g : Nat) (b : List UInt8) (p bad : Nat) (w : World) (hr : RdR w g b p bad) :
    Calls Try.prog 37 #[.pointer (some ⟨g, 0, none⟩)] w fun e w' =>
      ∃ v, e = .returned v ∧ v = .tuple #[.int .u64 ((rawV b p bad).1 : Int), .int .i64 ((rawV b p bad).2.1 : Int)] ∧ RdR w' g b p (rawV b p bad).2.2 ∧ Upd1 g w w' := by
  have hr0 := hr
  obtain ⟨A, c, hB, hI, hp⟩ := hr
  refine enter (l := [_]) 34 Try.func37 rfl rfl (by simp) ?_
  refine w_sreg (wl_v (aI rfl) <| wl_v (aI rfl) <| wl_end ?_)
  refine w_seq ?_
  refine w_sreg (wl_v (mP rfl) <| wl_v (ex_nilCheck rfl) <| wl_v (ex_fld fld80_2 rfl) <| wl_v (ex_load1 Try.underlying3 rfl (hB.cell rfl)) <| wl_v (ex_neq rfl rfl) <| wl_end ?_)
  refine w_ifn rfl (fun h9 => ?_) (fun h9 => ?_)
  · refine w_sreg (wl_v (aI rfl) <| wl_v (aI rfl) <| wl_end ?_)
    have hV : rawV b p bad = (0, 0, bad) := by unfold rawV; rw [if_pos (by omega)]
    rw [hV]
    exact w_ret (ret_then (end2 rfl ⟨_, rfl, rfl, hr0, Upd1.refl _ _⟩))
  refine w_skip (then_k ?_)
  have hb0 : bad = 0 := by omega
  subst hb0
  have hV : rawV b p 0 = takev (b.drop p) := by unfold rawV; rw [if_neg (by simp)]
  rw [hV]
  have hmax := hI.lt
  obtain ⟨v2, hs2, hv2⟩ := subB hI p b.length hp (Nat.le_refl _)
  have e2 : (b.drop p).take (b.length - p) = b.drop p := by rw [List.take_of_length_le (by rw [List.length_drop]; omega)]
  rw [e2] at hv2
  have hD : Old w w.drew := (Old.refl w).drew
  have hBd := hB.old hD
  refine w_sdraw (fun W => W = w.drew) [(0, true), (1, true), (2, true), (3, true), (4, true), (5, true), (6, true), (7, true), (8, true), (9, false), (10, true), (11, true), (12, true), (13, true), (14, true), (15, true), (16, true)] mixed (by decide +kernel) rfl ?_
  refine wd_f rfl rfl (fun W hS => mP rfl) <| wd_f rfl rfl (fun W hS => ex_nilCheck rfl) <| wd_f rfl rfl (fun W hS => ex_fld fld80_0 rfl) <| wd_f rfl rfl (fun W hS => ex_load1 Try.underlying23 rfl (hS ▸ hBd.cell rfl)) <| wd_f rfl rfl (fun W hS => mP rfl) <| wd_f rfl rfl (fun W hS => ex_nilCheck rfl) <| wd_f rfl rfl (fun W hS => ex_fld fld80_1 rfl) <| wd_f rfl rfl (fun W hS => ex_load1 Try.underlying3 rfl (hS ▸ hBd.cell rfl)) <| wd_f rfl rfl (fun W hS => ex_subLo Try.underlying23 inf5 rfl hs2 rfl rfl) <| wd_c rfl rfl (ec_fn en52) (R1_Take _ v2 _ (hv2.old hD)) ?_
  rintro _ w2 ⟨rfl, rfl⟩
  refine ⟨rfl, ?_⟩
  generalize (takev (b.drop p)).1 = n at *
  generalize (takev (b.drop p)).2.1 = k at *
  generalize (takev (b.drop p)).2.2 = er at *
  refine wd_f rfl rfl (fun W hS => mT rfl) <| wd_f rfl rfl (fun W hS => ex_extract rfl rfl) <| wd_f rfl rfl (fun W hS => ex_extract rfl rfl) <| wd_f rfl rfl (fun W hS => ex_extract rfl rfl) <| wd_f rfl rfl (fun W hS => aI rfl) <| wd_f rfl rfl (fun W hS => aI rfl) <| wd_f rfl rfl (fun W hS => aI rfl) <| wd_nil ?_
  refine w_seq ?_
  refine w_sreg (wl_v (mI rfl) <| wl_v (ex_neq rfl rfl) <| wl_end ?_)
  refine w_ifn rfl (fun h10 => ?_) (fun h10 => ?_)
  · refine w_reg (wl_v (mP rfl) <| wl_v (mI rfl) <| wl_v (ex_nilCheck rfl) <| wl_v (ex_fld fld80_2 rfl) <| wl_st inf3 rfl rfl rfl hBd (by simp) fun w3 hB3 hU3 => wl_nil (then_k ?_))
    refine w_sreg (wl_v (mI rfl) <| wl_v (mI rfl) <| wl_v (aI rfl) <| wl_v (aI rfl) <| wl_end ?_)
    exact w_ret (end2 rfl ⟨_, rfl, rfl, ⟨A, c, hB3, (hI.old hD).upd hBd rfl hU3, hp⟩, (Upd1.of_old hD).trans hU3⟩)
  refine w_skip (then_k ?_)
  have he0 : er = 0 := by omega
  subst he0
  refine w_sreg (wl_v (mI rfl) <| wl_v (mI rfl) <| wl_v (aI rfl) <| wl_v (aI rfl) <| wl_end ?_)
  exact w_ret (end2 rfl ⟨_, rfl, rfl, ⟨A, c, hBd, hI.old hD, hp⟩, Upd1.of_old hD⟩)

theorem numV_raw (b : List UInt8) (p bad most : Nat) : numV b p bad most = if (rawV b p bad).2.2 ≠ 0 then (0, p, (rawV b p bad).2.2) else if (rawV b p bad).1 ≤ 4611686018427387904 ∧ (rawV b p bad).1 ≤ most then ((rawV b p bad).1, p + (rawV b p bad).2.1, 0) else (0, p, 3) := by
  unfold numV rawV
  by_cases h : bad = 0
  · simp [h]
  · simp [h]
theorem R3_Number (g : Nat) (b : List UInt8) (p bad most : Nat) (hm : most < 9223372036854775808) (w : World) (hr : RdR w g b p bad) :
    Calls Try.prog 18 #[.pointer (some ⟨g, 0, none⟩), .int .i64 (most : Int)] w fun e w' =>
      ∃ v, e = .returned v ∧ v = .int .i64 ((numV b p bad most).1 : Int) ∧ RdR w' g b (numV b p bad most).2.1 (numV b p bad most).2.2 ∧ Upd1 g w w' := by
  have hat : p ≤ b.length := by obtain ⟨_, _, _, _, h⟩ := hr; exact h
  refine enter (l := [_, _]) 43 Try.func18 rfl rfl (by simp) ?_
  refine w_sreg (wl_v (aI rfl) <| wl_end ?_)
  refine w_sreg (wl_v (mP rfl) <| wl_c (ec_fn en37) (R3_raw g b p bad w hr) ?_)
  rintro _ w1 ⟨rfl, hr1, hU1⟩
  have hsp : (rawV b p bad).2.2 = 0 → p + (rawV b p bad).2.1 ≤ b.length := by
    intro h
    unfold rawV at h ⊢
    by_cases hb : bad = 0
    · rw [if_neg (by simp [hb])] at h ⊢
      have := takev_spec h
      rw [List.length_drop] at this
      omega
    · rw [if_pos hb] at h; exact absurd h hb
  rw [numV_raw]
  generalize (rawV b p bad).1 = n at *
  generalize (rawV b p bad).2.1 = k at *
  generalize (rawV b p bad).2.2 = E at *
  obtain ⟨A, c, hB, hI, hp⟩ := hr1
  have hmax := hI.lt
  refine wl_v (mT rfl) <| wl_v (ex_extract rfl rfl) <| wl_v (ex_extract rfl rfl) <| wl_v (aI rfl) <| wl_v (aI rfl) <| wl_end ?_
  refine w_seq ?_
  refine w_sreg (wl_v (mP rfl) <| wl_v (ex_nilCheck rfl) <| wl_v (ex_fld fld80_2 rfl) <| wl_v (ex_load1 Try.underlying3 rfl (hB.cell rfl)) <| wl_v (ex_neq rfl rfl) <| wl_end ?_)
  refine w_ifn rfl (fun h4 => ?_) (fun h4 => ?_)
  · refine w_sreg (wl_v (aI rfl) <| wl_end ?_)
    rw [if_pos (by omega)]
    exact w_ret (ret_then (end1 rfl ⟨_, rfl, rfl, ⟨A, c, hB, hI, hp⟩, hU1⟩))
  refine w_skip (then_k ?_)
  have he0 : E = 0 := by omega
  subst he0
  have hsp := hsp rfl
  rw [if_neg (by simp)]
  refine w_seq ?_
  refine w_sreg (wl_v (mI rfl) <| wl_v (ex_lss rfl rfl) <| wl_v (mB rfl) <| wl_or 2 4 [20, 21, 22, 23] rfl rfl rfl rfl (fun hp => wl_gy rfl (congrArg Value.bool hp) <| wl_v (mI rfl) <| wl_gy rfl (congrArg Value.bool hp) <| wl_v (mI rfl) <| wl_gy rfl (congrArg Value.bool hp) <| wl_v (ex_convW Try.underlying3 Try.underlying71 rfl (u64id (by omega))) <| wl_gy rfl (congrArg Value.bool hp) <| wl_v (ex_gtr rfl rfl) <| wl_nil (amp_end (ag4 rfl rfl rfl rfl) rfl rfl)) fun _ => wl_v (mB rfl) <| wl_or 8 2 [26, 27] rfl rfl rfl rfl (fun hp => wl_gy rfl (congrArg Value.bool hp) <| wl_v (mI rfl) <| wl_gy rfl (congrArg Value.bool hp) <| wl_v (ex_gtr rfl rfl) <| wl_nil (amp_end (ag2 rfl rfl) rfl rfl)) fun _ => wl_end ?_)
  refine w_if rfl (fun h5 => ?_) (fun h5 => ?_)
  · have h5' : ¬ (n ≤ 4611686018427387904 ∧ n ≤ most) := by
      simp only [Bool.or_eq_true, decide_eq_true_eq] at h5
      omega
    refine w_sreg (wl_v (mP rfl) <| wl_v (ex_nilCheck rfl) <| wl_v (ex_fld fld80_2 rfl) <| wl_st inf3 rfl rfl rfl hB (by simp) fun w3 hB3 hU3 => wl_end ?_)
    refine w_sreg (wl_v (aI rfl) <| wl_end ?_)
    rw [if_neg h5']
    exact w_ret (ret_then (end1 rfl ⟨_, rfl, rfl, ⟨A, c, hB3, hI.upd hB rfl hU3, hp⟩, hU1.trans hU3⟩))
  have h5' : n ≤ 4611686018427387904 ∧ n ≤ most := by
    simp only [Bool.or_eq_false_iff, decide_eq_false_iff_not] at h5
    omega
  refine w_skip (then_k ?_)
  rw [if_pos h5']
  refine w_sreg (wl_v (mP rfl) <| wl_v (mP rfl) <| wl_v (ex_nilCheck rfl) <| wl_v (ex_fld fld80_1 rfl) <| wl_v (ex_load1 Try.underlying3 rfl (hB.cell rfl)) <| wl_v (mI rfl) <| wl_v (ex_addW (c := ((p + k : Nat) : Int)) rfl rfl (by rw [wrap64_id (by omega) (by omega)]; omega)) <| wl_v (ex_nilCheck rfl) <| wl_v (ex_fld fld80_1 rfl) <| wl_st inf3 rfl rfl rfl hB (by simp) fun w3 hB3 hU3 => wl_end ?_)
  refine w_sreg (wl_v (mI rfl) <| wl_v (ex_convW Try.underlying71 Try.underlying3 rfl (i64id (by omega))) <| wl_v (aI rfl) <| wl_end ?_)
  exact w_ret (end1 rfl ⟨_, rfl, rfl, ⟨A, c, hB3, hI.upd hB rfl hU3, hsp⟩, hU1.trans hU3⟩)

theorem R3_rBytes (g : Nat) (b : List UInt8) (p bad most : Nat) (hm : most ≤ 140737488355328) (w : World) (hr : RdR w g b p bad) :
    Calls Try.prog 19 #[.pointer (some ⟨g, 0, none⟩), .int .i64 (most : Int)] w fun e w' =>
      ∃ v, e = .returned v ∧ IsB w' v (bytesV b p bad most).1 ∧ RdR w' g b (bytesV b p bad most).2.1 (bytesV b p bad most).2.2 ∧ Upd1 g w w' := by
  have hat : p ≤ b.length := by obtain ⟨_, _, _, _, h⟩ := hr; exact h
  have hN := numV_at (bad := bad) (most := most) hat
  have hNm := numV_most (b := b) (p := p) (bad := bad) (most := most)
  refine enter (l := [_, _]) 57 Try.func19 rfl rfl (by simp) ?_
  refine w_sreg (wl_v (aS rfl) <| wl_end ?_)
  refine w_sreg (wl_v (mP rfl) <| wl_v (mI rfl) <| wl_c (ec_fn en18) (R3_Number g b p bad most (by omega) w hr) ?_)
  rintro _ w2 ⟨rfl, hr1, hU1⟩
  have hV : bytesV b p bad most = if (numV b p bad most).2.2 ≠ 0 then ([], (numV b p bad most).2.1, (numV b p bad most).2.2)
      else if b.length - (numV b p bad most).2.1 < (numV b p bad most).1 then ([], (numV b p bad most).2.1, 10)
      else ((b.drop (numV b p bad most).2.1).take (numV b p bad most).1, (numV b p bad most).2.1 + (numV b p bad most).1, 0) := rfl
  generalize (numV b p bad most).1 = n at *
  generalize (numV b p bad most).2.1 = q at *
  generalize (numV b p bad most).2.2 = E at *
  obtain ⟨A, c, hB, hI, hq⟩ := hr1
  have hmax := hI.lt
  refine wl_v (aI rfl) <| wl_end ?_
  refine w_seq ?_
  refine w_sreg (wl_v (mP rfl) <| wl_v (ex_nilCheck rfl) <| wl_v (ex_fld fld80_2 rfl) <| wl_v (ex_load1 Try.underlying3 rfl (hB.cell rfl)) <| wl_v (ex_neq rfl rfl) <| wl_end ?_)
  refine w_ifn rfl (fun h1 => ?_) (fun h1 => ?_)
  · refine w_sreg (wl_v (aS rfl) <| wl_end ?_)
    rw [if_pos (by omega)] at hV
    rw [hV]
    exact w_ret (ret_then (end1 rfl ⟨_, rfl, IsB.nil _, ⟨A, c, hB, hI, hq⟩, hU1⟩))
  have he0 : E = 0 := by omega
  subst he0
  rw [if_neg (by simp)] at hV
  refine w_skip (then_k ?_)
  refine w_seq ?_
  have hD : Old w2 w2.drew := (Old.refl w2).drew
  have hBd := hB.old hD
  refine w_sdraw (fun W => W = w2.drew) [(0, true), (1, true), (2, true), (3, true), (4, true), (5, true), (6, true), (7, true), (8, true), (9, true), (10, true), (11, true)] mixed (by decide +kernel) rfl ?_
  refine wd_f rfl rfl (fun W hS => mI rfl) <| wd_f rfl rfl (fun W hS => mP rfl) <| wd_f rfl rfl (fun W hS => ex_nilCheck rfl) <| wd_f rfl rfl (fun W hS => ex_fld fld80_0 rfl) <| wd_f rfl rfl (fun W hS => ex_load1 Try.underlying23 rfl (hS ▸ hBd.cell rfl)) <| wd_f rfl rfl (fun W hS => ex_len Try.underlying23 rfl) <| wd_f rfl rfl (fun W hS => mP rfl) <| wd_f rfl rfl (fun W hS => ex_nilCheck rfl) <| wd_f rfl rfl (fun W hS => ex_fld fld80_1 rfl) <| wd_f rfl rfl (fun W hS => ex_load1 Try.underlying3 rfl (hS ▸ hBd.cell rfl)) <| wd_f rfl rfl (fun W hS => ex_sub64 rfl rfl (by omega) (by omega)) <| wd_f rfl rfl (fun W hS => ex_gtr rfl rfl) <| wd_nil ?_
  refine w_ifp rfl (fun h2 => ?_) (fun h2 => ?_)
  · refine w_sreg (wl_v (mP rfl) <| wl_v (ex_nilCheck rfl) <| wl_v (ex_fld fld80_2 rfl) <| wl_st inf3 rfl rfl rfl hBd (by simp) fun w3 hB3 hU3 => wl_end ?_)
    refine w_sreg (wl_v (aS rfl) <| wl_end ?_)
    rw [if_pos (by omega)] at hV
    rw [hV]
    exact w_ret (ret_then (end1 rfl ⟨_, rfl, IsB.nil _, ⟨A, c, hB3, (hI.old hD).upd hBd rfl hU3, hq⟩, hU1.trans ((Upd1.of_old hD).trans hU3)⟩))
  refine w_skip (then_k ?_)
  rw [if_neg (by omega)] at hV
  refine w_sreg (wl_v (aS rfl) <| wl_end ?_)
  have hD2 : Old w2.drew w2.drew.drew := (Old.refl _).drew
  have hB2 := hBd.old hD2
  have hI2 := (hI.old hD).old hD2
  obtain ⟨v5, hs5, hv5⟩ := subB hI2 q (q + n) (by omega) (by omega)
  rw [show q + n - q = n from by omega] at hv5
  refine w_sdraw (fun W => Old w2.drew.drew W) [(0, true), (1, true), (2, true), (3, true), (4, true), (5, true), (6, true), (7, true), (8, true), (9, true), (10, true), (11, true), (12, true), (13, true), (14, true), (15, true), (16, false), (17, true)] mixed (by decide +kernel) (Old.refl _) ?_
  refine wd_f rfl rfl (fun W hS => mS rfl) <| wd_f rfl rfl (fun W hS => mP rfl) <| wd_f rfl rfl (fun W hS => ex_nilCheck rfl) <| wd_f rfl rfl (fun W hS => ex_fld fld80_0 rfl) <| wd_f rfl rfl (fun W hS => ex_load1 Try.underlying23 rfl ((hB2.old hS).cell rfl)) <| wd_f rfl rfl (fun W hS => mP rfl) <| wd_f rfl rfl (fun W hS => ex_nilCheck rfl) <| wd_f rfl rfl (fun W hS => ex_fld fld80_1 rfl) <| wd_f rfl rfl (fun W hS => ex_load1 Try.underlying3 rfl ((hB2.old hS).cell rfl)) <| wd_f rfl rfl (fun W hS => mP rfl) <| wd_f rfl rfl (fun W hS => ex_nilCheck rfl) <| wd_f rfl rfl (fun W hS => ex_fld fld80_1 rfl) <| wd_f rfl rfl (fun W hS => ex_load1 Try.underlying3 rfl ((hB2.old hS).cell rfl)) <| wd_f rfl rfl (fun W hS => mI rfl) <| wd_f rfl rfl (fun W hS => ex_addW (c := ((q + n : Nat) : Int)) rfl rfl (by rw [wrap64_id (by omega) (by omega)]; omega)) <| wd_f rfl rfl (fun W hS => ex_subLH Try.underlying23 inf5 rfl hs5 rfl rfl rfl rfl) <| wd_appV (base := w2.drew.drew.heap.size) rfl rfl (OwnB.nil _ _) rfl hv5 (by simp; omega) (Nat.le_refl _) fun v6 w4 HO6 hg6 _ => ⟨?_, ?_⟩
  · exact (Old.refl _).grown hg6 (fun k hk => by cases hk)
  have HB4 : Old w2.drew.drew w4 := (Old.refl _).grown hg6 (fun k hk => by cases hk)
  refine wd_f rfl rfl (fun W hS => aV (v := v6) rfl) <| wd_nil ?_
  have hB4 := hB2.old HB4
  have hI4 := hI2.old HB4
  refine w_sreg (wl_v (mP rfl) <| wl_v (mP rfl) <| wl_v (ex_nilCheck rfl) <| wl_v (ex_fld fld80_1 rfl) <| wl_v (ex_load1 Try.underlying3 rfl (hB4.cell rfl)) <| wl_v (mI rfl) <| wl_v (ex_addW (c := ((q + n : Nat) : Int)) rfl rfl (by rw [wrap64_id (by omega) (by omega)]; omega)) <| wl_v (ex_nilCheck rfl) <| wl_v (ex_fld fld80_1 rfl) <| wl_st inf3 rfl rfl rfl hB4 (by simp) fun w5 hB5 hU5 => wl_end ?_)
  refine w_sreg (wl_v (mV (v := v6) rfl) <| wl_v (aV (v := v6) rfl) <| wl_end ?_)
  rw [hV]
  refine w_ret (end1 rfl ⟨_, rfl, ?_, ⟨A, c, hB5, hI4.upd hB4 rfl hU5, by simp only; omega⟩, hU1.trans ((Upd1.of_old (hD.trans (hD2.trans HB4))).trans hU5)⟩)
  exact HO6.isB.upd hB4 rfl hU5

theorem R3_Done (g : Nat) (b : List UInt8) (p bad : Nat) (w : World) (hr : RdR w g b p bad) :
    Calls Try.prog 20 #[.pointer (some ⟨g, 0, none⟩)] w fun e w' => ∃ v, e = .returned v ∧ v = .int .i64 (doneV b p bad : Int) ∧ Old w w' := by
  obtain ⟨A, c, hB, hI, hp⟩ := hr
  refine enter (l := [_]) 24 Try.func20 rfl rfl (by simp) ?_
  refine w_sreg (wl_v (aI rfl) <| wl_end ?_)
  refine w_seq ?_
  have hD : Old w w.drew := (Old.refl w).drew
  have hBd := hB.old hD
  refine w_sdraw (fun W => W = w.drew) [(0, true), (1, true), (2, true), (3, true), (4, true), (5, true), (6, true), (7, true), (8, true), (9, true), (10, true), (11, true), (12, true), (13, true), (14, true), (15, true), (16, true)] mixed (by decide +kernel) rfl ?_
  refine wd_f rfl rfl (fun W hS => mP rfl) <| wd_f rfl rfl (fun W hS => ex_nilCheck rfl) <| wd_f rfl rfl (fun W hS => ex_fld fld80_2 rfl) <| wd_f rfl rfl (fun W hS => ex_load1 Try.underlying3 rfl (hS ▸ hBd.cell rfl)) <| wd_f rfl rfl (fun W hS => ex_eql rfl rfl) <| wd_f rfl rfl (fun W hS => mB rfl) <| wd_and 5 10 [9, 10, 11, 12, 13, 14, 15, 16, 17, 18] rfl rfl rfl rfl rfl (fun hp => wd_fgy rfl rfl rfl (congrArg Value.bool hp) (fun W hS => mP rfl) <| wd_fgy rfl rfl rfl (congrArg Value.bool hp) (fun W hS => ex_nilCheck rfl) <| wd_fgy rfl rfl rfl (congrArg Value.bool hp) (fun W hS => ex_fld fld80_1 rfl) <| wd_fgy rfl rfl rfl (congrArg Value.bool hp) (fun W hS => ex_load1 Try.underlying3 rfl (hS ▸ hBd.cell rfl)) <| wd_fgy rfl rfl rfl (congrArg Value.bool hp) (fun W hS => mP rfl) <| wd_fgy rfl rfl rfl (congrArg Value.bool hp) (fun W hS => ex_nilCheck rfl) <| wd_fgy rfl rfl rfl (congrArg Value.bool hp) (fun W hS => ex_fld fld80_0 rfl) <| wd_fgy rfl rfl rfl (congrArg Value.bool hp) (fun W hS => ex_load1 Try.underlying23 rfl (hS ▸ hBd.cell rfl)) <| wd_fgy rfl rfl rfl (congrArg Value.bool hp) (fun W hS => ex_len Try.underlying23 rfl) <| wd_fgy rfl rfl rfl (congrArg Value.bool hp) (fun W hS => ex_lss rfl rfl) <| wd_nil (ampd_end (agree_upd (agree_upd (ag8 rfl rfl rfl rfl rfl rfl rfl rfl) rfl) rfl) rfl)) fun _ => wd_nil ?_
  refine w_ifa rfl (fun h6 => ?_) (fun h6 => ?_)
  · refine w_sreg (wl_v (aI rfl) <| wl_end ?_)
    refine w_ret (ret_then (end1 rfl ⟨_, rfl, ?_, hD⟩))
    rw [doneV, if_pos (by omega)]; rfl
  refine w_skip (then_k ?_)
  refine w_sreg (wl_v (mP rfl) <| wl_v (ex_nilCheck rfl) <| wl_v (ex_fld fld80_2 rfl) <| wl_v (ex_load1 Try.underlying3 rfl (hBd.cell rfl)) <| wl_v (aI rfl) <| wl_end ?_)
  refine w_ret (end1 rfl ⟨_, rfl, ?_, hD⟩)
  rw [doneV, if_neg (by omega)]; rfl

theorem R3_Num (n : Nat) (hn : n < 9223372036854775808) (w : World) :
    Calls Try.prog 33 #[.int .i64 (n : Int)] w fun e w' => ∃ v, e = .returned v ∧ OwnB w.heap.size w' v (putv n) ∧ Old w w' := by
  refine enter (l := [_]) 8 Try.func33 rfl rfl (by simp) ?_
  refine w_sreg (wl_v (aS rfl) <| wl_end ?_)
  refine w_seq ?_
  refine w_sreg (wl_v (mI rfl) <| wl_v (ex_lss rfl rfl) <| wl_end ?_)
  refine w_ifp rfl (fun h11 => absurd h11 (by omega)) (fun h11 => ?_)
  refine w_skip (then_k ?_)
  refine w_sreg (wl_v (mI rfl) <| wl_v (ex_convW Try.underlying3 Try.underlying71 rfl (u64id (by omega))) <| wl_c (ec_fn en30) (R1_Put n (by omega) w) ?_)
  rintro v1 w1 ⟨HO1, HB1⟩
  refine wl_v (aV (v := v1) rfl) <| wl_end ?_
  exact w_ret (end1 rfl ⟨_, rfl, HO1, HB1⟩)
theorem R3_Bytes (k : List UInt8) (u : Value) (w : World) (hu : IsB w u k) (hlen : k.length + 10 ≤ 140737488355328) :
    Calls Try.prog 14 #[u] w fun e w' => ∃ v, e = .returned v ∧ OwnB w.heap.size w' v (putv k.length ++ k) ∧ Old w w' := by
  have hpl := putv_len10 (n := k.length) (by omega)
  refine enter (l := [_]) 8 Try.func14 rfl rfl (by simp) ?_
  refine w_sreg (wl_v (aS rfl) <| wl_end ?_)
  refine w_sreg (wl_v (mV (v := u) rfl) <| wl_v (ex_lenB Try.underlying23 rfl hu) <| wl_c (ec_fn en33) (R3_Num k.length (by omega) w) ?_)
  rintro v1 w1 ⟨HO1, HB1⟩
  refine wl_v (mV (v := u) rfl) <| wl_appV rfl HO1 rfl (hu.old HB1) (by omega) HB1.size fun v2 w2 HO2 hg2 _ => wl_v (aV (v := v2) rfl) <| wl_end ?_
  exact w_ret (end1 rfl ⟨_, rfl, HO2, grown2 HB1 HO1 hg2⟩)
end Go.Proofs.Ytcceeigkgklkoaa
