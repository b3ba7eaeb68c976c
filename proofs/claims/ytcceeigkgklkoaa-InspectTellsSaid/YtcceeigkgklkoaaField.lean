/- frame.Whole, field: readers and writers. -/
import Derived.Test.YtcceeigkgklkoaaFrame
namespace Go.Proofs.Ytcceeigkgklkoaa
open Go.RowKit

theorem frame_Whole (kind : UInt8) (b : List UInt8) (v : Value) (w : World) (hv : IsB w v b) :
    Calls Try.prog 40 #[.int .u8 (kind.toNat : Int), v] w fun e w' => ∃ v, e = .returned v ∧ ∃ u, v = .tuple #[u, .int .i64 ((wholeF kind b).2 : Int)] ∧ IsB w' u (wholeF kind b).1 ∧ Old w w' := by
  refine enter (l := [_, _]) 31 Try.func40 rfl rfl (by simp) ?_
  refine w_sreg (wl_v (aS rfl) <| wl_v (aI rfl) <| wl_end ?_)
  refine w_sreg (wl_v (mV (v := v) rfl) <| wl_c (ec_fn en53) (frame_Take b v w hv) ?_)
  rintro _ w1 ⟨u, rfl, hu, HB⟩
  have hW : wholeF kind b = if (takeF b).2.2.2 ≠ 0 then ([], (takeF b).2.2.2) else if (takeF b).1 ≠ kind.toNat then ([], 11) else if (takeF b).2.2.1 < b.length then ([], 13) else ((takeF b).2.1, 0) := rfl
  generalize (takeF b).1 = n1 at *
  generalize (takeF b).2.1 = n2 at *
  generalize (takeF b).2.2.1 = n3 at *
  generalize (takeF b).2.2.2 = n4 at *
  refine wl_v (mT rfl) <| wl_v (ex_extract rfl rfl) <| wl_v (ex_extract rfl rfl) <| wl_v (ex_extract rfl rfl) <| wl_v (ex_extract rfl rfl) <| wl_v (aI rfl) <| wl_v (aV (v := u) rfl) <| wl_v (aI rfl) <| wl_v (aI rfl) <| wl_end ?_
  refine w_seq ?_
  refine w_block ?_
  refine w_sreg (wl_v (mI rfl) <| wl_v (ex_neq rfl rfl) <| wl_v (aB rfl) <| wl_end ?_)
  refine w_ifn rfl (fun h9 => ?_) (fun h9 => ?_)
  · refine w_sreg (wl_v (mI rfl) <| wl_v (aS rfl) <| wl_v (aI rfl) <| wl_end ?_)
    rw [if_pos (by omega)] at hW
    refine w_ret (ret_block (ret_then (end2 rfl ⟨_, rfl, .slice none 0 0, ?_, ?_, HB⟩)))
    · rw [hW]; rfl
    · rw [hW]; exact IsB.nil _
  rw [if_neg (by omega)] at hW
  refine w_sreg (wl_v (mI rfl) <| wl_v (mI rfl) <| wl_v (ex_neq rfl rfl) <| wl_v (aB rfl) <| wl_end ?_)
  refine w_ifn rfl (fun h10 => ?_) (fun h10 => ?_)
  · refine w_sreg (wl_v (aS rfl) <| wl_v (aI rfl) <| wl_end ?_)
    rw [if_pos (by omega)] at hW
    refine w_ret (ret_block (ret_then (end2 rfl ⟨_, rfl, .slice none 0 0, ?_, ?_, HB⟩)))
    · rw [hW]; rfl
    · rw [hW]; exact IsB.nil _
  rw [if_neg (by omega)] at hW
  refine w_sreg (wl_v (mI rfl) <| wl_v (mV (v := v) rfl) <| wl_v (ex_lenB Try.underlying23 rfl hv) <| wl_v (ex_lss rfl rfl) <| wl_v (aB rfl) <| wl_end ?_)
  refine w_ifp rfl (fun h11 => ?_) (fun h11 => ?_)
  · refine w_sreg (wl_v (aS rfl) <| wl_v (aI rfl) <| wl_end ?_)
    rw [if_pos (by omega)] at hW
    refine w_ret (ret_block (ret_then (end2 rfl ⟨_, rfl, .slice none 0 0, ?_, ?_, HB⟩)))
    · rw [hW]; rfl
    · rw [hW]; exact IsB.nil _
  rw [if_neg (by omega)] at hW
  refine w_skip (norm_block (then_k ?_))
  refine w_sreg (wl_v (mV (v := u) rfl) <| wl_v (aV (v := u) rfl) <| wl_v (aI rfl) <| wl_end ?_)
  refine w_ret (end2 rfl ⟨_, rfl, u, ?_, ?_, HB⟩)
  · rw [hW]; rfl
  · rw [hW]; exact hu

theorem R4_Whole (kind : UInt8) (b : List UInt8) (v : Value) (w : World) (hv : IsB w v b) :
    Calls Try.prog 16 #[.int .u8 (kind.toNat : Int), v] w fun e w' => ∃ v, e = .returned v ∧ ∃ u, v = .tuple #[u, .int .i64 ((wholeF kind b).2 : Int)] ∧ IsB w' u (wholeF kind b).1 ∧ Old w w' := by
  refine enter (l := [_, _]) 28 Try.func16 rfl rfl (by simp) ?_
  refine w_sreg (wl_v (aS rfl) <| wl_v (aI rfl) <| wl_end ?_)
  refine w_sreg (wl_v (mV (v := v) rfl) <| wl_c (ec_fn en36) (R4_Take b v w hv) ?_)
  rintro _ w1 ⟨u, rfl, hu, HB⟩
  have hW : wholeF kind b = if (takeF b).2.2.2 ≠ 0 then ([], (takeF b).2.2.2) else if (takeF b).1 ≠ kind.toNat then ([], 11) else if (takeF b).2.2.1 < b.length then ([], 13) else ((takeF b).2.1, 0) := rfl
  generalize (takeF b).1 = n1 at *
  generalize (takeF b).2.1 = n2 at *
  generalize (takeF b).2.2.1 = n3 at *
  generalize (takeF b).2.2.2 = n4 at *
  refine wl_v (mT rfl) <| wl_v (ex_extract rfl rfl) <| wl_v (ex_extract rfl rfl) <| wl_v (ex_extract rfl rfl) <| wl_v (ex_extract rfl rfl) <| wl_v (aI rfl) <| wl_v (aV (v := u) rfl) <| wl_v (aI rfl) <| wl_v (aI rfl) <| wl_end ?_
  refine w_seq ?_
  refine w_sreg (wl_v (mI rfl) <| wl_v (ex_neq rfl rfl) <| wl_end ?_)
  refine w_ifn rfl (fun h9 => ?_) (fun h9 => ?_)
  · refine w_sreg (wl_v (mI rfl) <| wl_v (aS rfl) <| wl_v (aI rfl) <| wl_end ?_)
    rw [if_pos (by omega)] at hW
    refine w_ret (ret_then (end2 rfl ⟨_, rfl, .slice none 0 0, ?_, ?_, HB⟩))
    · rw [hW]; rfl
    · rw [hW]; exact IsB.nil _
  rw [if_neg (by omega)] at hW
  refine w_skip (then_k ?_)
  refine w_seq ?_
  refine w_sreg (wl_v (mI rfl) <| wl_v (mI rfl) <| wl_v (ex_neq rfl rfl) <| wl_end ?_)
  refine w_ifn rfl (fun h10 => ?_) (fun h10 => ?_)
  · refine w_sreg (wl_v (aS rfl) <| wl_v (aI rfl) <| wl_end ?_)
    rw [if_pos (by omega)] at hW
    refine w_ret (ret_then (end2 rfl ⟨_, rfl, .slice none 0 0, ?_, ?_, HB⟩))
    · rw [hW]; rfl
    · rw [hW]; exact IsB.nil _
  rw [if_neg (by omega)] at hW
  refine w_skip (then_k ?_)
  refine w_seq ?_
  refine w_sreg (wl_v (mI rfl) <| wl_v (mV (v := v) rfl) <| wl_v (ex_lenB Try.underlying23 rfl hv) <| wl_v (ex_lss rfl rfl) <| wl_end ?_)
  refine w_ifp rfl (fun h11 => ?_) (fun h11 => ?_)
  · refine w_sreg (wl_v (aS rfl) <| wl_v (aI rfl) <| wl_end ?_)
    rw [if_pos (by omega)] at hW
    refine w_ret (ret_then (end2 rfl ⟨_, rfl, .slice none 0 0, ?_, ?_, HB⟩))
    · rw [hW]; rfl
    · rw [hW]; exact IsB.nil _
  rw [if_neg (by omega)] at hW
  refine w_skip (then_k ?_)
  refine w_sreg (wl_v (mV (v := u) rfl) <| wl_v (aV (v := u) rfl) <| wl_v (aI rfl) <| wl_end ?_)
  refine w_ret (end2 rfl ⟨_, rfl, u, ?_, ?_, HB⟩)
  · rw [hW]; rfl
  · rw [hW]; exact hu

/-! ### What readers read -/
/-- A number: the number, how far, what was wrong. -/
def numV (b : List UInt8) (p bad most : Nat) : Nat × Nat × Nat :=
  if bad ≠ 0 then (0, p, bad) else if (takev (b.drop p)).2.2 ≠ 0 then (0, p, (takev (b.drop p)).2.2)
  else if (takev (b.drop p)).1 ≤ 4611686018427387904 ∧ (takev (b.drop p)).1 ≤ most then ((takev (b.drop p)).1, p + (takev (b.drop p)).2.1, 0) else (0, p, 3)
def bytesV (b : List UInt8) (p bad most : Nat) : List UInt8 × Nat × Nat :=
  if (numV b p bad most).2.2 ≠ 0 then ([], (numV b p bad most).2.1, (numV b p bad most).2.2)
  else if b.length - (numV b p bad most).2.1 < (numV b p bad most).1 then ([], (numV b p bad most).2.1, 10)
  else ((b.drop (numV b p bad most).2.1).take (numV b p bad most).1, (numV b p bad most).2.1 + (numV b p bad most).1, 0)
def doneV (b : List UInt8) (p bad : Nat) : Nat := if bad = 0 ∧ p < b.length then 13 else bad
theorem numV_at {b : List UInt8} {p bad most : Nat} (h : p ≤ b.length) : (numV b p bad most).2.1 ≤ b.length ∧ (numV b p bad most).1 ≤ 4611686018427387904 := by
  unfold numV
  split
  · exact ⟨h, by simp⟩
  · split
    · exact ⟨h, by simp⟩
    · rename_i h1 h2
      have := takev_spec (l := b.drop p) (by simpa using h2)
      rw [List.length_drop] at this
      split
      · rename_i h3; exact ⟨by simp only; omega, h3.1⟩
      · exact ⟨h, by simp⟩
theorem bytesV_at {b : List UInt8} {p bad most : Nat} (h : p ≤ b.length) : (bytesV b p bad most).2.1 ≤ b.length := by
  have := numV_at (bad := bad) (most := most) h
  unfold bytesV
  split
  · exact this.1
  · split
    · exact this.1
    · simp only; omega

/-! ### The reader's state -/
def RdP (w : World) (g : Nat) (b : List UInt8) (p bad : Nat) : Prop := ∃ A c, Box w g 97 #[.slice A b.length c, .int .i64 (p : Int), .int .i64 (bad : Int), .bool true] ∧ IsB w (.slice A b.length c) b ∧ p ≤ b.length
theorem RdP.old {w w' : World} {g : Nat} {b : List UInt8} {p bad : Nat} (h : RdP w g b p bad) (hb : Old w w') : RdP w' g b p bad := by
  obtain ⟨A, c, h1, h2, h3⟩ := h
  exact ⟨A, c, h1.old hb, h2.old hb, h3⟩
theorem RdP.upd {w w' : World} {g g' : Nat} {b : List UInt8} {p bad : Nat} {e : TypeId} {cs : Array Value} (h : RdP w g b p bad) (hne : g ≠ g') (hB : Box w g' e cs) (hn : noU8 cs = true) (hu : Upd1 g' w w') : RdP w' g b p bad := by
  obtain ⟨A, c, h1, h2, h3⟩ := h
  exact ⟨A, c, h1.upd hu hne, h2.upd hB hn hu, h3⟩

theorem field_Read (b : List UInt8) (v : Value) (w : World) (hv : IsB w v b) :
    Calls Try.prog 41 #[v] w fun e w' => ∃ v, e = .returned v ∧ v = .pointer (some ⟨w.heap.size, 0, none⟩) ∧ RdP w' w.heap.size b 0 0 ∧ Old w w' := by
  obtain ⟨A, c, rfl⟩ := hv.lay
  refine enter (l := [_]) 6 Try.func41 rfl rfl (by simp) ?_
  refine w_sreg (wl_v (aP rfl) <| wl_end ?_)
  refine w_sreg (wl_v (mS rfl) <| wl_v (ex_build #[.slice A b.length c, .int .i64 0, .int .i64 0, .bool true] (by kernel_rfl)) <| wl_v (ex_box rfl rfl) <| wl_v (aP rfl) <| wl_end ?_)
  exact w_ret (end1 rfl ⟨_, rfl, rfl, ⟨A, c, Box.new _ _ _, hv.old ((Old.refl w).alloc _), Nat.zero_le _⟩, (Old.refl w).alloc _⟩)

theorem field_ok (g : Nat) (b : List UInt8) (p bad : Nat) (w : World) (hr : RdP w g b p bad) :
    Calls Try.prog 56 #[.pointer (some ⟨g, 0, none⟩)] w fun e w' => ∃ v, e = .returned v ∧ v = .bool (decide (bad = 0)) ∧ w' = w := by
  obtain ⟨A, c, hB, hI, hp⟩ := hr
  refine enter (l := [_]) 18 Try.func56 rfl rfl (by simp) ?_
  refine w_sreg (wl_v (aB rfl) <| wl_end ?_)
  refine w_sreg (wl_v (mP rfl) <| wl_v (ex_pnil_neq Try.underlying85 rfl) <| wl_v (mB rfl) <| wl_and 2 4 [6, 7, 8, 9] rfl rfl rfl rfl (fun hp => wl_gy rfl (congrArg Value.bool hp) <| wl_v (mP rfl) <| wl_gy rfl (congrArg Value.bool hp) <| wl_v (ex_nilCheck rfl) <| wl_gy rfl (congrArg Value.bool hp) <| wl_v (ex_fld fld97_3 rfl) <| wl_gy rfl (congrArg Value.bool hp) <| wl_v (ex_load1 Try.underlying4 rfl (hB.cell rfl)) <| wl_nil (amp_end (ag4 rfl rfl rfl rfl) rfl rfl)) fun _ => wl_v (mB rfl) <| wl_and 8 5 [12, 13, 14, 15, 16] rfl rfl rfl rfl (fun hp => wl_gy rfl (congrArg Value.bool hp) <| wl_v (mP rfl) <| wl_gy rfl (congrArg Value.bool hp) <| wl_v (ex_nilCheck rfl) <| wl_gy rfl (congrArg Value.bool hp) <| wl_v (ex_fld fld97_2 rfl) <| wl_gy rfl (congrArg Value.bool hp) <| wl_v (ex_load1 Try.underlying31 rfl (hB.cell rfl)) <| wl_gy rfl (congrArg Value.bool hp) <| wl_v (ex_eql rfl rfl) <| wl_nil (amp_end (ag5 rfl rfl rfl rfl rfl) rfl rfl)) fun _ => wl_v (aB rfl) <| wl_end ?_)
  refine w_ret (end1 rfl ⟨_, rfl, congrArg Value.bool ?_, rfl⟩)
  have : decide ((bad : Int) = 0) = decide (bad = 0) := decide_eq_decide.2 (by omega)
  simp only [Option.isSome_some, Bool.true_and, this]

theorem field_Error (g : Nat) (b : List UInt8) (p bad : Nat) (w : World) (hr : RdP w g b p bad) :
    Calls Try.prog 57 #[.pointer (some ⟨g, 0, none⟩)] w fun e w' => ∃ v, e = .returned v ∧ v = .int .i64 (bad : Int) ∧ w' = w := by
  obtain ⟨A, c, hB, hI, hp⟩ := hr
  refine enter (l := [_]) 16 Try.func57 rfl rfl (by simp) ?_
  refine w_sreg (wl_v (aI rfl) <| wl_end ?_)
  refine w_seq ?_
  refine w_sreg (wl_v (mP rfl) <| wl_v (ex_pnil_eql Try.underlying85 rfl) <| wl_v (mB rfl) <| wl_or 2 5 [6, 7, 8, 9, 10] rfl rfl rfl rfl (fun hp => wl_gy rfl (congrArg Value.bool hp) <| wl_v (mP rfl) <| wl_gy rfl (congrArg Value.bool hp) <| wl_v (ex_nilCheck rfl) <| wl_gy rfl (congrArg Value.bool hp) <| wl_v (ex_fld fld97_3 rfl) <| wl_gy rfl (congrArg Value.bool hp) <| wl_v (ex_load1 Try.underlying4 rfl (hB.cell rfl)) <| wl_gy rfl (congrArg Value.bool hp) <| wl_v (ex_not rfl) <| wl_nil (amp_end (ag5 rfl rfl rfl rfl rfl) rfl rfl)) fun _ => wl_end ?_)
  refine w_if_f rfl ?_
  refine w_skip (then_k ?_)
  refine w_sreg (wl_v (mP rfl) <| wl_v (ex_nilCheck rfl) <| wl_v (ex_fld fld97_2 rfl) <| wl_v (ex_load1 Try.underlying31 rfl (hB.cell rfl)) <| wl_v (aI rfl) <| wl_end ?_)
  exact w_ret (end1 rfl ⟨_, rfl, rfl, rfl⟩)

theorem field_Number1 (n most h : Nat) (e : TypeId) (w : World) (hm : Box w h e #[.int .i64 (most : Int)]) :
    Calls Try.prog 55 #[.int .u64 (n : Int), .pointer (some ⟨h, 0, none⟩)] w fun e w' => ∃ v, e = .returned v ∧ v = .bool (decide (n ≤ 4611686018427387904 ∧ n ≤ most)) ∧ w' = w := by
  refine enter (l := [_, _]) 12 Try.func55 rfl rfl (by simp) ?_
  refine w_sreg (wl_v (aB rfl) <| wl_end ?_)
  refine w_sreg (wl_v (mI rfl) <| wl_v (ex_leq rfl rfl) <| wl_v (mB rfl) <| wl_and 2 4 [7, 8, 9, 10] rfl rfl rfl rfl (fun hp => wl_gy rfl (congrArg Value.bool hp) <| wl_v (mI rfl) <| wl_gy rfl (congrArg Value.bool hp) <| wl_v (ex_convW Try.underlying71 Try.underlying3 rfl (i64id (by have := of_decide_eq_true hp; omega))) <| wl_gy rfl (congrArg Value.bool hp) <| wl_v (ex_load1 Try.underlying3 rfl (hm.cell rfl)) <| wl_gy rfl (congrArg Value.bool hp) <| wl_v (ex_leq rfl rfl) <| wl_nil (amp_end (ag4 rfl rfl rfl rfl) rfl rfl)) fun _ => wl_v (aB rfl) <| wl_end ?_)
  refine w_ret (end1 rfl ⟨_, rfl, congrArg Value.bool ?_, rfl⟩)
  rw [← Bool.decide_and]
  exact decide_eq_decide.2 (by omega)

theorem field_raw (g h : Nat) (b : List UInt8) (p bad most : Nat) (e : TypeId) (w : World) (hr : RdP w g b p bad) (hm : Box w h e #[.int .i64 (most : Int)]) :
    Calls Try.prog 54 #[.pointer (some ⟨g, 0, none⟩), .func (.func 55) #[] #[.pointer (some ⟨h, 0, none⟩)]] w fun e w' =>
      ∃ v, e = .returned v ∧ (∃ ok : Bool, v = .tuple #[.int .u64 ((numV b p bad most).1 : Int), .bool ok]) ∧ RdP w' g b (numV b p bad most).2.1 (numV b p bad most).2.2 ∧ Upd1 g w w' := by
  have hr0 := hr
  obtain ⟨A, c, hB, hI, hp⟩ := hr
  refine enter (l := [_, _]) 49 Try.func54 rfl rfl (by simp) ?_
  refine w_sreg (wl_v (aI rfl) <| wl_v (aB rfl) <| wl_end ?_)
  refine w_seq ?_
  refine w_sreg (wl_v (mP rfl) <| wl_c (ec_fn en56) (field_ok g b p bad w hr0) ?_)
  rintro _ w1 ⟨rfl, rfl⟩
  refine wl_v (ex_not rfl) <| wl_end ?_
  refine w_ifn rfl (fun h2 => ?_) (fun h2 => ?_)
  · refine w_sreg (wl_v (aI rfl) <| wl_v (aB rfl) <| wl_end ?_)
    have hN : numV b p bad most = (0, p, bad) := by unfold numV; rw [if_pos h2]
    rw [hN]
    exact w_ret (ret_then (end2 rfl ⟨_, rfl, ⟨_, rfl⟩, hr0, Upd1.refl _ _⟩))
  refine w_skip (then_k ?_)
  subst h2
  have hN : numV b p 0 most = if (takev (b.drop p)).2.2 ≠ 0 then (0, p, (takev (b.drop p)).2.2)
      else if (takev (b.drop p)).1 ≤ 4611686018427387904 ∧ (takev (b.drop p)).1 ≤ most then ((takev (b.drop p)).1, p + (takev (b.drop p)).2.1, 0) else (0, p, 3) := by unfold numV; rw [if_neg (by simp)]
  have hmax := hI.lt
  obtain ⟨v2, hs2, hv2⟩ := subB hI p b.length hp (Nat.le_refl _)
  have e2 : (b.drop p).take (b.length - p) = b.drop p := by rw [List.take_of_length_le (by rw [List.length_drop]; omega)]
  rw [e2] at hv2
  have hsp := @takev_spec (b.drop p)
  have hdl : (b.drop p).length = b.length - p := by rw [List.length_drop]
  have hD : Old w1 w1.drew := (Old.refl w1).drew
  have hBd := hB.old hD
  refine w_sdraw (fun W => W = w1.drew) [(0, true), (1, true), (2, true), (3, true), (4, true), (5, true), (6, true), (7, true), (8, true), (9, false), (10, true), (11, true), (12, true), (13, true), (14, true), (15, true), (16, true)] mixed (by decide +kernel) rfl ?_
  refine wd_f rfl rfl (fun W hS => mP rfl) <| wd_f rfl rfl (fun W hS => ex_nilCheck rfl) <| wd_f rfl rfl (fun W hS => ex_fld fld97_0 rfl) <| wd_f rfl rfl (fun W hS => ex_load1 Try.underlying23 rfl (hS ▸ hBd.cell rfl)) <| wd_f rfl rfl (fun W hS => mP rfl) <| wd_f rfl rfl (fun W hS => ex_nilCheck rfl) <| wd_f rfl rfl (fun W hS => ex_fld fld97_1 rfl) <| wd_f rfl rfl (fun W hS => ex_load1 Try.underlying3 rfl (hS ▸ hBd.cell rfl)) <| wd_f rfl rfl (fun W hS => ex_subLo Try.underlying23 inf5 rfl hs2 rfl rfl) <| wd_c rfl rfl (ec_fn en61) (varint_Take _ v2 _ (hv2.old hD)) ?_
  rintro _ w2 ⟨rfl, rfl⟩
  refine ⟨rfl, ?_⟩
  generalize (takev (b.drop p)).1 = n at *
  generalize (takev (b.drop p)).2.1 = k at *
  generalize (takev (b.drop p)).2.2 = er at *
  refine wd_f rfl rfl (fun W hS => mT rfl) <| wd_f rfl rfl (fun W hS => ex_extract rfl rfl) <| wd_f rfl rfl (fun W hS => ex_extract rfl rfl) <| wd_f rfl rfl (fun W hS => ex_extract rfl rfl) <| wd_f rfl rfl (fun W hS => aI rfl) <| wd_f rfl rfl (fun W hS => aI rfl) <| wd_f rfl rfl (fun W hS => aI rfl) <| wd_nil ?_
  have hm' := hm.old hD
  refine w_cut (fun f' w' => f' 0 = .pointer (some ⟨g, 0, none⟩) ∧ f' 6 = .int .u64 (n : Int) ∧ f' 7 = .int .i64 (k : Int) ∧ f' 8 = .int .i64 ((if er = 0 ∧ ¬ (n ≤ 4611686018427387904 ∧ n ≤ most) then 3 else er : Nat) : Int) ∧ w' = w1.drew) ?_ ?_
  · refine w_sreg (wl_v (mI rfl) <| wl_v (ex_eql rfl rfl) <| wl_v (mB rfl) <| wl_and (q := !decide (n ≤ 4611686018427387904 ∧ n ≤ most)) 2 4 [29, 30, 31, 32] rfl rfl rfl rfl (fun hp => wl_gy rfl (congrArg Value.bool hp) <| wl_v (mF rfl) <| wl_gy rfl (congrArg Value.bool hp) <| wl_v (mI rfl) <| wl_gy rfl (congrArg Value.bool hp) <| wl_c (ec_clo (cap := [.pointer (some ⟨h, 0, none⟩)]) en55 rfl) (field_Number1 n most h e _ hm') (fun v w1 hR => by
      obtain ⟨rfl, rfl⟩ := hR
      exact wl_gy rfl (congrArg Value.bool hp) <| wl_v (ex_not rfl) <| wl_nil (amp_end (ag4 rfl rfl rfl rfl) rfl rfl))) fun _ => wl_end ?_)
    refine w_if rfl (fun h3 => ?_) (fun h3 => ?_)
    · have h3' : er = 0 ∧ ¬ (n ≤ 4611686018427387904 ∧ n ≤ most) := by
        simp only [Bool.and_eq_true, decide_eq_true_eq, Bool.not_eq_true', decide_eq_false_iff_not] at h3
        exact ⟨by omega, h3.2⟩
      exact w_reg (wl_v (aI rfl) <| wl_nil (cut_end ⟨rfl, rfl, rfl, by rw [if_pos h3']; rfl, rfl⟩))
    · have h3' : ¬ (er = 0 ∧ ¬ (n ≤ 4611686018427387904 ∧ n ≤ most)) := by
        intro hc
        have h0 : ((er : Int) = 0) := by omega
        simp [h0, hc.2] at h3
      exact w_skip (cut_end ⟨rfl, rfl, rfl, by rw [if_neg h3']; rfl, rfl⟩)
  rintro f w' ⟨h0, h6, h7, h8, rfl⟩
  have hN' : numV b p 0 most = if (if er = 0 ∧ ¬ (n ≤ 4611686018427387904 ∧ n ≤ most) then 3 else er : Nat) = 0 then (n, p + k, 0) else (0, p, if er = 0 ∧ ¬ (n ≤ 4611686018427387904 ∧ n ≤ most) then 3 else er) := by
    rw [hN]
    by_cases he : er = 0
    · by_cases hn : n ≤ 4611686018427387904 ∧ n ≤ most
      · simp [he, hn]
      · simp [he, hn]
    · simp [he]
  have hk : (if er = 0 ∧ ¬ (n ≤ 4611686018427387904 ∧ n ≤ most) then 3 else er : Nat) = 0 → p + k ≤ b.length := by
    intro h
    have : er = 0 := by
      split at h
      · cases h
      · exact h
    have := hsp this
    omega
  clear hN
  generalize (if er = 0 ∧ ¬ (n ≤ 4611686018427387904 ∧ n ≤ most) then 3 else er : Nat) = E at *
  obtain ⟨f, rfl⟩ := xp4 h0 h6 h7 h8
  refine w_seq ?_
  refine w_sreg (wl_v (mI rfl) <| wl_v (ex_neq rfl rfl) <| wl_end ?_)
  refine w_ifn rfl (fun h4 => ?_) (fun h4 => ?_)
  · refine w_sreg (wl_v (mP rfl) <| wl_v (mI rfl) <| wl_v (ex_nilCheck rfl) <| wl_v (ex_fld fld97_2 rfl) <| wl_st inf31 rfl rfl rfl hBd (by simp) fun w3 hB3 hU3 => wl_end ?_)
    refine w_sreg (wl_v (aI rfl) <| wl_v (aB rfl) <| wl_end ?_)
    rw [if_neg (by omega)] at hN'
    rw [hN']
    exact w_ret (ret_then (end2 rfl ⟨_, rfl, ⟨_, rfl⟩, ⟨A, c, hB3, (hI.old hD).upd hBd rfl hU3, hp⟩, (Upd1.of_old hD).trans hU3⟩))
  refine w_skip (then_k ?_)
  rw [if_pos (by omega)] at hN'
  have hk := hk (by omega)
  refine w_sreg (wl_v (mP rfl) <| wl_v (ex_nilCheck rfl) <| wl_v (ex_fld fld97_1 rfl) <| wl_v (ex_load1 Try.underlying3 rfl (hBd.cell rfl)) <| wl_v (mI rfl) <| wl_v (ex_addW (c := ((p + k : Nat) : Int)) rfl rfl (by rw [wrap64_id (by omega) (by omega)]; omega)) <| wl_v (ex_nilCheck rfl) <| wl_v (ex_fld fld97_1 rfl) <| wl_st inf3 rfl rfl rfl hBd (by simp) fun w3 hB3 hU3 => wl_end ?_)
  refine w_sreg (wl_v (mI rfl) <| wl_v (aI rfl) <| wl_v (aB rfl) <| wl_end ?_)
  rw [hN']
  exact w_ret (end2 rfl ⟨_, rfl, ⟨_, rfl⟩, ⟨A, c, hB3, (hI.old hD).upd hBd rfl hU3, hk⟩, (Upd1.of_old hD).trans hU3⟩)

theorem field_Number (g : Nat) (b : List UInt8) (p bad most : Nat) (w : World) (hr : RdP w g b p bad) :
    Calls Try.prog 42 #[.pointer (some ⟨g, 0, none⟩), .int .i64 (most : Int)] w fun e w' =>
      ∃ v, e = .returned v ∧ v = .int .i64 ((numV b p bad most).1 : Int) ∧ RdP w' g b (numV b p bad most).2.1 (numV b p bad most).2.2 ∧ Upd1 g w w' := by
  refine enter (l := [_, _]) 15 Try.func42 rfl rfl (by simp) ?_
  have hD : Old w (w.alloc (.cells #[.int .i64 (most : Int)] 3)) := (Old.refl w).alloc _
  refine w_sreg (wl_v (ex_box rfl rfl) <| wl_v (aI rfl) <| wl_end ?_)
  have hat : p ≤ b.length := by obtain ⟨_, _, _, _, h⟩ := hr; exact h
  have hN := (numV_at (bad := bad) (most := most) hat).2
  refine w_sreg (wl_v (mP rfl) <| wl_v (ex_makeFunc (c := [_])) <| wl_c (ec_fn en54) (field_raw g w.heap.size b p bad most 3 _ (hr.old hD) (Box.new _ _ _)) ?_)
  rintro _ w1 ⟨⟨ok, rfl⟩, hr1, hU⟩
  refine wl_v (mT rfl) <| wl_v (ex_extract rfl rfl) <| wl_v (ex_extract rfl rfl) <| wl_v (aI rfl) <| wl_v (aB rfl) <| wl_end ?_
  refine w_sreg (wl_v (mI rfl) <| wl_v (ex_convW Try.underlying71 Try.underlying3 rfl (i64id (by omega))) <| wl_v (aI rfl) <| wl_end ?_)
  exact w_ret (end1 rfl ⟨_, rfl, rfl, hr1, (Upd1.of_old hD).trans hU⟩)
end Go.Proofs.Ytcceeigkgklkoaa
