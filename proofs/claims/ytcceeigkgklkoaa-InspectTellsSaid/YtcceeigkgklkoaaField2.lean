/- field: the readers' rest; writers; viaticumref03. -/
import Derived.Test.YtcceeigkgklkoaaField
namespace Go.Proofs.Ytcceeigkgklkoaa
open Go.RowKit

theorem numV_most {b : List UInt8} {p bad most : Nat} : (numV b p bad most).1 ≤ most := by
  unfold numV
  split
  · simp
  · split
    · simp
    · split
      · rename_i h; exact h.2
      · simp
theorem field_Bytes (g : Nat) (b : List UInt8) (p bad most : Nat) (hm : most ≤ 140737488355328) (w : World) (hr : RdP w g b p bad) :
    Calls Try.prog 43 #[.pointer (some ⟨g, 0, none⟩), .int .i64 (most : Int)] w fun e w' =>
      ∃ v, e = .returned v ∧ IsB w' v (bytesV b p bad most).1 ∧ RdP w' g b (bytesV b p bad most).2.1 (bytesV b p bad most).2.2 ∧ Upd1 g w w' := by
  have hat : p ≤ b.length := by obtain ⟨_, _, _, _, h⟩ := hr; exact h
  have hN := numV_at (bad := bad) (most := most) hat
  have hNm := numV_most (b := b) (p := p) (bad := bad) (most := most)
  refine enter (l := [_, _]) 51 Try.func43 rfl rfl (by simp) ?_
  refine w_sreg (wl_v (aS rfl) <| wl_end ?_)
  refine w_sreg (wl_v (mP rfl) <| wl_v (mI rfl) <| wl_c (ec_fn en42) (field_Number g b p bad most w hr) ?_)
  rintro _ w1 ⟨rfl, hr1, hU1⟩
  have hV : bytesV b p bad most = if (numV b p bad most).2.2 ≠ 0 then ([], (numV b p bad most).2.1, (numV b p bad most).2.2)
      else if b.length - (numV b p bad most).2.1 < (numV b p bad most).1 then ([], (numV b p bad most).2.1, 10)
      else ((b.drop (numV b p bad most).2.1).take (numV b p bad most).1, (numV b p bad most).2.1 + (numV b p bad most).1, 0) := rfl
  generalize (numV b p bad most).1 = n at *
  generalize (numV b p bad most).2.1 = q at *
  generalize (numV b p bad most).2.2 = E at *
  refine wl_v (aI rfl) <| wl_end ?_
  refine w_seq ?_
  refine w_sreg (wl_v (mP rfl) <| wl_c (ec_fn en56) (field_ok g b q E w1 hr1) ?_)
  rintro _ w2 ⟨rfl, rfl⟩
  refine wl_v (ex_not rfl) <| wl_end ?_
  refine w_ifn rfl (fun h1 => ?_) (fun h1 => ?_)
  · refine w_sreg (wl_v (aS rfl) <| wl_end ?_)
    rw [if_pos h1] at hV
    rw [hV]
    exact w_ret (ret_then (end1 rfl ⟨_, rfl, IsB.nil _, hr1, hU1⟩))
  subst h1
  rw [if_neg (by simp)] at hV
  obtain ⟨A, c, hB, hI, hq⟩ := hr1
  have hmax := hI.lt
  refine w_skip (then_k ?_)
  refine w_seq ?_
  have hD : Old w2 w2.drew := (Old.refl w2).drew
  have hBd := hB.old hD
  refine w_sdraw (fun W => W = w2.drew) [(0, true), (1, true), (2, true), (3, true), (4, true), (5, true), (6, true), (7, true), (8, true), (9, true), (10, true), (11, true)] mixed (by decide +kernel) rfl ?_
  refine wd_f rfl rfl (fun W hS => mI rfl) <| wd_f rfl rfl (fun W hS => mP rfl) <| wd_f rfl rfl (fun W hS => ex_nilCheck rfl) <| wd_f rfl rfl (fun W hS => ex_fld fld97_0 rfl) <| wd_f rfl rfl (fun W hS => ex_load1 Try.underlying23 rfl (hS ▸ hBd.cell rfl)) <| wd_f rfl rfl (fun W hS => ex_len Try.underlying23 rfl) <| wd_f rfl rfl (fun W hS => mP rfl) <| wd_f rfl rfl (fun W hS => ex_nilCheck rfl) <| wd_f rfl rfl (fun W hS => ex_fld fld97_1 rfl) <| wd_f rfl rfl (fun W hS => ex_load1 Try.underlying3 rfl (hS ▸ hBd.cell rfl)) <| wd_f rfl rfl (fun W hS => ex_sub64 rfl rfl (by omega) (by omega)) <| wd_f rfl rfl (fun W hS => ex_gtr rfl rfl) <| wd_nil ?_
  refine w_ifp rfl (fun h2 => ?_) (fun h2 => ?_)
  · refine w_sreg (wl_v (mP rfl) <| wl_v (ex_nilCheck rfl) <| wl_v (ex_fld fld97_2 rfl) <| wl_st inf31 rfl rfl rfl hBd (by simp) fun w3 hB3 hU3 => wl_end ?_)
    refine w_sreg (wl_v (aS rfl) <| wl_end ?_)
    rw [if_pos (by omega)] at hV
    rw [hV]
    exact w_ret (ret_then (end1 rfl ⟨_, rfl, IsB.nil _, ⟨A, c, hB3, (hI.old hD).upd hBd rfl hU3, hq⟩, hU1.trans ((Upd1.of_old hD).trans hU3)⟩))
  refine w_skip (then_k ?_)
  rw [if_neg (by omega)] at hV
  refine w_sreg (wl_v (mP rfl) <| wl_v (ex_nilCheck rfl) <| wl_v (ex_fld fld97_1 rfl) <| wl_v (ex_load1 Try.underlying3 rfl (hBd.cell rfl)) <| wl_v (mI rfl) <| wl_v (ex_addW (c := ((q + n : Nat) : Int)) rfl rfl (by rw [wrap64_id (by omega) (by omega)]; omega)) <| wl_v (ex_nilCheck rfl) <| wl_v (ex_fld fld97_1 rfl) <| wl_st inf3 rfl rfl rfl hBd (by simp) fun w3 hB3 hU3 => wl_end ?_)
  have hI3 := (hI.old hD).upd hBd rfl hU3
  have hD3 : Old w3 w3.drew := (Old.refl w3).drew
  have hB3d := hB3.old hD3
  obtain ⟨v5, hs5, hv5⟩ := subB (hI3.old hD3) q (q + n) (by omega) (by omega)
  rw [show q + n - q = n from by omega] at hv5
  refine w_sdraw (fun W => Old w3.drew W) [(0, true), (1, true), (2, true), (3, true), (4, true), (5, true), (6, true), (7, true), (8, true), (9, true), (10, true), (11, true), (12, true), (13, true), (14, true), (15, false), (16, true)] mixed (by decide +kernel) (Old.refl _) ?_
  refine wd_f rfl rfl (fun W hS => mP rfl) <| wd_f rfl rfl (fun W hS => ex_nilCheck rfl) <| wd_f rfl rfl (fun W hS => ex_fld fld97_0 rfl) <| wd_f rfl rfl (fun W hS => ex_load1 Try.underlying23 rfl ((hB3d.old hS).cell rfl)) <| wd_f rfl rfl (fun W hS => mP rfl) <| wd_f rfl rfl (fun W hS => ex_nilCheck rfl) <| wd_f rfl rfl (fun W hS => ex_fld fld97_1 rfl) <| wd_f rfl rfl (fun W hS => ex_load1 Try.underlying3 rfl ((hB3d.old hS).cell rfl)) <| wd_f rfl rfl (fun W hS => mI rfl) <| wd_f rfl rfl (fun W hS => ex_subW (c := (q : Int)) rfl rfl (by rw [wrap64_id (by omega) (by omega)]; omega)) <| wd_f rfl rfl (fun W hS => mP rfl) <| wd_f rfl rfl (fun W hS => ex_nilCheck rfl) <| wd_f rfl rfl (fun W hS => ex_fld fld97_1 rfl) <| wd_f rfl rfl (fun W hS => ex_load1 Try.underlying3 rfl ((hB3d.old hS).cell rfl)) <| wd_f rfl rfl (fun W hS => ex_subLH Try.underlying23 inf5 rfl hs5 rfl rfl rfl rfl) <| wd_c rfl rfl (ec_fn en23) (clone _ v5 _ hv5 (by rw [List.length_take]; omega)) ?_
  rintro v6 w4 ⟨HO6, HB4⟩
  refine ⟨HB4, ?_⟩
  refine wd_f rfl rfl (fun W hS => aV (v := v6) rfl) <| wd_nil ?_
  rw [hV]
  exact w_ret (end1 rfl ⟨_, rfl, HO6.isB, ⟨A, c, hB3d.old HB4, (hI3.old hD3).old HB4, by simp only; omega⟩, hU1.trans ((Upd1.of_old hD).trans (hU3.trans (Upd1.of_old (hD3.trans HB4))))⟩)

theorem field_Done (g : Nat) (b : List UInt8) (p bad : Nat) (w : World) (hr : RdP w g b p bad) :
    Calls Try.prog 44 #[.pointer (some ⟨g, 0, none⟩)] w fun e w' => ∃ v, e = .returned v ∧ v = .int .i64 (doneV b p bad : Int) ∧ Old w w' := by
  have hr0 := hr
  obtain ⟨A, c, hB, hI, hp⟩ := hr
  refine enter (l := [_]) 21 Try.func44 rfl rfl (by simp) ?_
  refine w_sreg (wl_v (aI rfl) <| wl_end ?_)
  refine w_sreg (wl_v (mP rfl) <| wl_c (ec_fn en57) (field_Error g b p bad w hr0) ?_)
  rintro _ w1 ⟨rfl, rfl⟩
  refine wl_v (aI rfl) <| wl_end ?_
  refine w_seq ?_
  have hD : Old w1 w1.drew := (Old.refl w1).drew
  have hBd := hB.old hD
  refine w_sdraw (fun W => W = w1.drew) [(0, true), (1, true), (2, true), (3, true), (4, true), (5, true), (6, true), (7, true), (8, true), (9, true), (10, true), (11, true), (12, true), (13, true)] mixed (by decide +kernel) rfl ?_
  refine wd_f rfl rfl (fun W hS => mI rfl) <| wd_f rfl rfl (fun W hS => ex_eql rfl rfl) <| wd_f rfl rfl (fun W hS => mB rfl) <| wd_and 2 10 [9, 10, 11, 12, 13, 14, 15, 16, 17, 18] rfl rfl rfl rfl rfl (fun hp => wd_fgy rfl rfl rfl (congrArg Value.bool hp) (fun W hS => mP rfl) <| wd_fgy rfl rfl rfl (congrArg Value.bool hp) (fun W hS => ex_nilCheck rfl) <| wd_fgy rfl rfl rfl (congrArg Value.bool hp) (fun W hS => ex_fld fld97_1 rfl) <| wd_fgy rfl rfl rfl (congrArg Value.bool hp) (fun W hS => ex_load1 Try.underlying3 rfl (hS ▸ hBd.cell rfl)) <| wd_fgy rfl rfl rfl (congrArg Value.bool hp) (fun W hS => mP rfl) <| wd_fgy rfl rfl rfl (congrArg Value.bool hp) (fun W hS => ex_nilCheck rfl) <| wd_fgy rfl rfl rfl (congrArg Value.bool hp) (fun W hS => ex_fld fld97_0 rfl) <| wd_fgy rfl rfl rfl (congrArg Value.bool hp) (fun W hS => ex_load1 Try.underlying23 rfl (hS ▸ hBd.cell rfl)) <| wd_fgy rfl rfl rfl (congrArg Value.bool hp) (fun W hS => ex_len Try.underlying23 rfl) <| wd_fgy rfl rfl rfl (congrArg Value.bool hp) (fun W hS => ex_lss rfl rfl) <| wd_nil (ampd_end (agree_upd (agree_upd (ag8 rfl rfl rfl rfl rfl rfl rfl rfl) rfl) rfl) rfl)) fun _ => wd_nil ?_
  refine w_ifa rfl (fun h6 => ?_) (fun h6 => ?_)
  · refine w_sreg (wl_v (aI rfl) <| wl_end ?_)
    refine w_ret (ret_then (end1 rfl ⟨_, rfl, ?_, hD⟩))
    rw [doneV, if_pos (by omega)]; rfl
  refine w_skip (then_k ?_)
  refine w_sreg (wl_v (mI rfl) <| wl_v (aI rfl) <| wl_end ?_)
  refine w_ret (end1 rfl ⟨_, rfl, ?_, hD⟩)
  rw [doneV, if_neg (by omega)]; rfl

/-! ### Writers -/
def WrP (w : World) (g : Nat) (l : List UInt8) : Prop := ∃ v, Box w g 66 #[v] ∧ OwnB (g + 1) w v l
theorem WrP.lt {w : World} {g : Nat} {l : List UInt8} (h : WrP w g l) : g < w.heap.size := by obtain ⟨_, h, _⟩ := h; exact h.lt
theorem WrP.old {w w' : World} {g : Nat} {l : List UInt8} (h : WrP w g l) (hb : Old w w') : WrP w' g l := by
  obtain ⟨v, h1, h2⟩ := h
  exact ⟨v, h1.old hb, h2.old hb⟩
theorem field_put (g : Nat) (l k : List UInt8) (u : Value) (w : World) (hw : WrP w g l) (hu : IsB w u k) (hlen : l.length + k.length ≤ 140737488355328) :
    Calls Try.prog 47 #[.pointer (some ⟨g, 0, none⟩), u] w fun e w' => ∃ v, e = .returned v ∧ WrP w' g (l ++ k) ∧ Below g w w' := by
  obtain ⟨v, hB, HO⟩ := hw
  have hlt := hB.lt
  refine enter (l := [_, _]) 15 Try.func47 rfl rfl (by simp) ?_
  refine w_sreg (wl_v (mP rfl) <| wl_v (ex_pnil_neq Try.underlying64 rfl) <| wl_end ?_)
  refine w_if_t rfl ?_
  refine w_reg (wl_v (mP rfl) <| wl_v (mP rfl) <| wl_v (ex_nilCheck rfl) <| wl_v (ex_fld fld66_0 rfl) <| wl_v (ex_load1 Try.underlying23 rfl (hB.cell rfl)) <| wl_v (mV (v := u) rfl) <| wl_appV rfl HO rfl hu hlen (by omega) fun v1 w1 HO1 hg1 _ => wl_v (ex_nilCheck rfl) <| wl_v (ex_fld fld66_0 rfl) <| wl_st inf23 rfl (v := v1) rfl HO1.one (hB.grown hg1 (fun h => by have := HO.ge g h; omega)) (by simp) fun w2 hB2 hU2 => wl_nil (end0 rfl ?_))
  have hB1 := hB.grown hg1 (fun h => by have := HO.ge g h; omega)
  refine ⟨_, rfl, ⟨v1, hB2, HO1.upd hB1 (by decide) hU2⟩, ?_⟩
  have h1 : Below g w w1 := Below.grown (Below.refl g w) hg1 (by omega) (fun k hk => by have := HO.ge k hk; omega)
  exact Below.trans h1 (hU2.below (by have := hB1.lt; omega))

theorem field_wNumber (g : Nat) (l : List UInt8) (n : Nat) (w : World) (hw : WrP w g l) (hn : n < 9223372036854775808) (hlen : l.length + 10 ≤ 140737488355328) :
    Calls Try.prog 46 #[.pointer (some ⟨g, 0, none⟩), .int .i64 (n : Int)] w fun e w' => ∃ v, e = .returned v ∧ WrP w' g (l ++ putv n) ∧ Below g w w' := by
  refine enter (l := [_, _]) 10 Try.func46 rfl rfl (by simp) ?_
  have hpl := putv_len10 (n := n) (by omega)
  refine w_reg (wl_v (mP rfl) <| wl_v (mI rfl) <| wl_v (ex_eq (v' := .int .i64 (n : Int)) (ex_max rfl rfl) (congrArg (Value.int .i64) (by rw [if_neg (by omega)]))) <| wl_v (ex_convW Try.underlying3 Try.underlying71 rfl (u64id (by omega))) <| wl_c (ec_fn en48) (varint_Put n (by omega) w) ?_)
  rintro v1 w1 ⟨HO1, HB1⟩
  refine wl_c (ec_fn en47) (field_put g l (putv n) v1 w1 (hw.old HB1) HO1.isB (by omega)) ?_
  rintro v2 w2 ⟨hw2, hb2⟩
  refine wl_nil (end0 rfl ⟨_, rfl, hw2, ?_⟩)
  exact Below.trans (Below.mono HB1 (Nat.le_of_lt hw.lt)) hb2

theorem field_wBytes (g : Nat) (l k : List UInt8) (u : Value) (w : World) (hw : WrP w g l) (hu : ∀ w1, Below g w w1 → IsB w1 u k) (hlen : l.length + k.length + 10 ≤ 140737488355328) :
    Calls Try.prog 26 #[.pointer (some ⟨g, 0, none⟩), u] w fun e w' => ∃ v, e = .returned v ∧ WrP w' g (l ++ putv k.length ++ k) ∧ Below g w w' := by
  refine enter (l := [_, _]) 11 Try.func26 rfl rfl (by simp) ?_
  have hpl := putv_len10 (n := k.length) (by omega)
  refine w_sreg (wl_v (mP rfl) <| wl_v (mV (v := u) rfl) <| wl_v (ex_lenB Try.underlying23 rfl (hu w (Below.refl _ _))) <| wl_c (ec_fn en46) (field_wNumber g l k.length w hw (by omega) (by omega)) ?_)
  rintro v1 w1 ⟨hw1, hb1⟩
  refine wl_end ?_
  refine w_reg (wl_v (mP rfl) <| wl_v (mV (v := u) rfl) <| wl_c (ec_fn en47) (field_put g _ k u w1 hw1 (hu w1 hb1) (by rw [List.length_append]; omega)) ?_)
  rintro v2 w2 ⟨hw2, hb2⟩
  exact wl_nil (end0 rfl ⟨_, rfl, hw2, Below.trans hb1 hb2⟩)

theorem field_Out (g : Nat) (l : List UInt8) (w : World) (hw : WrP w g l) (hlen : l.length ≤ 140737488355328) :
    Calls Try.prog 29 #[.pointer (some ⟨g, 0, none⟩)] w fun e w' => ∃ v, e = .returned v ∧ OwnB w.heap.size w' v l ∧ Old w w' := by
  obtain ⟨v, hB, HO⟩ := hw
  refine enter (l := [_]) 10 Try.func29 rfl rfl (by simp) ?_
  refine w_sreg (wl_v (aS rfl) <| wl_end ?_)
  refine w_seq ?_
  refine w_sreg (wl_v (mP rfl) <| wl_v (ex_pnil_eql Try.underlying64 rfl) <| wl_end ?_)
  refine w_if_f rfl ?_
  refine w_skip (then_k ?_)
  refine w_sreg (wl_v (mP rfl) <| wl_v (ex_nilCheck rfl) <| wl_v (ex_fld fld66_0 rfl) <| wl_v (ex_load1 Try.underlying23 rfl (hB.cell rfl)) <| wl_c (ec_fn en23) (clone l v w HO.isB hlen) ?_)
  rintro v1 w1 ⟨HO1, HB1⟩
  refine wl_v (aV (v := v1) rfl) <| wl_end ?_
  exact w_ret (end1 rfl ⟨_, rfl, HO1, HB1⟩)
end Go.Proofs.Ytcceeigkgklkoaa
