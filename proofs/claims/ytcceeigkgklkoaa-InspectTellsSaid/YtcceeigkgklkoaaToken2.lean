/- viaticumref10.Open. -/
import Derived.Test.YtcceeigkgklkoaaToken
namespace Go.Proofs.Ytcceeigkgklkoaa
open Go.RowKit

theorem RdR.upd {w w' : World} {g g' : Nat} {b : List UInt8} {p bad : Nat} {e : TypeId} {cs : Array Value} (h : RdR w g b p bad) (hne : g ≠ g') (hB : Box w g' e cs) (hn : noU8 cs = true) (hu : Upd1 g' w w') : RdR w' g b p bad := by
  obtain ⟨A, c, h1, h2, h3⟩ := h
  exact ⟨A, c, h1.upd hu hne, h2.upd hB hn hu, h3⟩
theorem qNumber (g : Nat) (c : List UInt8) (p bad most : Nat) (hm : most < 9223372036854775808) (r : Nat × Nat × Nat) (hrr : r = numV c p bad most) (w : World) (hr : RdR w g c p bad) :
    Calls Try.prog 18 #[.pointer (some ⟨g, 0, none⟩), .int .i64 (most : Int)] w fun e w' => ∃ v, e = .returned v ∧ v = .int .i64 (r.1 : Int) ∧ RdR w' g c r.2.1 r.2.2 ∧ Upd1 g w w' := by
  subst hrr; exact R3_Number g c p bad most hm w hr
theorem qBytes (g : Nat) (c : List UInt8) (p bad most : Nat) (hm : most ≤ 140737488355328) (r : List UInt8 × Nat × Nat) (hrr : r = bytesV c p bad most) (w : World) (hr : RdR w g c p bad) :
    Calls Try.prog 19 #[.pointer (some ⟨g, 0, none⟩), .int .i64 (most : Int)] w fun e w' => ∃ v, e = .returned v ∧ IsB w' v r.1 ∧ RdR w' g c r.2.1 r.2.2 ∧ Upd1 g w w' := by
  subst hrr; exact R3_rBytes g c p bad most hm w hr
theorem qDone (g : Nat) (c : List UInt8) (p bad d : Nat) (hd : d = doneV c p bad) (w : World) (hr : RdR w g c p bad) :
    Calls Try.prog 20 #[.pointer (some ⟨g, 0, none⟩)] w fun e w' => ∃ v, e = .returned v ∧ v = .int .i64 (d : Int) ∧ Old w w' := by
  subst hd; exact R3_Done g c p bad w hr
theorem R10_Open (b : List UInt8) (v : Value) (w : World) (hv : IsB w v b) :
    Calls Try.prog 6 #[v] w fun e w' => ∃ v, e = .returned v ∧ OpenR w w' v b := by
  refine enter (l := [_]) 58 Try.func6 rfl rfl (by simp) ?_
  have hD : Old w (w.alloc (.cells Tok.zero.cs 27)) := (Old.refl w).alloc _
  have hB := Box.new w 27 Tok.zero.cs
  refine w_sreg (wl_v (ex_alloc inf27) <| wl_v (aS rfl) <| wl_v (aI rfl) <| wl_end ?_)
  have hgw : w.heap.size ≤ w.heap.size := Nat.le_refl _
  generalize hg : w.heap.size = g at hB
  have hz : w.alloc (.cells (Value.agg #[.int .i64 0, .int .i64 0, .int .i64 0, .int .i64 0, .int .i64 0, .int .i64 0]).cells 27) = w.alloc (.cells Tok.zero.cs 27) := rfl
  rw [hz]
  generalize w.alloc (.cells Tok.zero.cs 27) = w1 at *
  refine w_sreg (wl_v (mV (v := v) rfl) <| wl_c (ec_fn en16) (R4_Whole 2 b v w1 (hv.old hD)) ?_)
  rintro _ w2 ⟨u, rfl, hu, HB2⟩
  have hA2 := hD.trans HB2
  have hB2 := hB.old HB2
  refine wl_v (mT rfl) <| wl_v (ex_extract rfl rfl) <| wl_v (ex_extract rfl rfl) <| wl_v (aV (v := u) rfl) <| wl_v (aI rfl) <| wl_end ?_
  have hO : openV b = if (wholeF 2 b).2 ≠ 0 then (Tok.zero, [], (wholeF 2 b).2)
      else if doneOf (wholeF 2 b).1 ≠ 0 then (Tok.zero, [], doneOf (wholeF 2 b).1)
      else if ¬ (tokOf (wholeF 2 b).1).may ∨ (n7 (wholeF 2 b).1).1.length ≠ 32 then (Tok.zero, [], 2)
      else (tokOf (wholeF 2 b).1, (n7 (wholeF 2 b).1).1, 0) := rfl
  generalize (wholeF 2 b).1 = c at *
  generalize (wholeF 2 b).2 = er at *
  refine w_seq ?_
  refine w_sreg (wl_v (mI rfl) <| wl_v (ex_neq rfl rfl) <| wl_end ?_)
  refine w_ifn rfl (fun h2 => ?_) (fun h2 => ?_)
  · rw [if_pos (by omega)] at hO
    refine w_sreg (wl_v (ex_build Tok.zero.cs (by kernel_rfl)) <| wl_v (mI rfl) <| wl_stL (cs' := Tok.zero.cs) inf27 rfl rfl rfl rfl hB2 rfl fun w3 hB3 hU3 => wl_v (aS rfl) <| wl_v (aI rfl) <| wl_end ?_)
    refine w_ret (ret_then (end3A rfl Try.underlying27 rfl inf27 rfl hB3 rfl ⟨_, rfl, .slice none 0 0, ?_, ?_, hU3.old hA2 (by omega)⟩))
    · rw [hO]; rfl
    · rw [hO]; exact IsB.nil _
  refine w_skip (then_k ?_)
  rw [if_neg (by omega)] at hO
  refine w_sreg (wl_v (mV (v := u) rfl) <| wl_c (ec_fn en17) (R3_Read c u w2 hu) ?_)
  rintro _ w3 ⟨rfl, hr3, HB3⟩
  have hlt := hB2.lt
  have hA3 := hA2.trans HB3
  have hB3 := hB2.old HB3
  have hle2 := hA2.size
  have hlh : w2.heap.size < w3.heap.size := by obtain ⟨_, _, h, _⟩ := hr3; exact h.lt
  refine wl_v (aP rfl) <| wl_end ?_
  generalize hh : w2.heap.size = h at *
  refine w_sreg (wl_v (mP rfl) <| wl_c (ec_fn en18) (qNumber h c 0 0 2147483648 (by decide) (n1 c) rfl w3 hr3) ?_)
  rintro _ x1 ⟨rfl, hr1, hU1⟩
  have hA1 := hU1.old hA3 (by omega)
  have hB1 := hB3.upd hU1 (by omega)
  have hs1 := hU1.size
  have hDk : Old x1 (x1.alloc (.cells Tok.zero.cs 27)) := (Old.refl x1).alloc _
  have hKk := Box.new x1 27 Tok.zero.cs
  have hzk : x1.alloc (.cells (Value.agg #[.int .i64 0, .int .i64 0, .int .i64 0, .int .i64 0, .int .i64 0, .int .i64 0]).cells 27) = x1.alloc (.cells Tok.zero.cs 27) := rfl
  refine wl_v (ex_build #[.int .i64 ((n1 c).1 : Int), .int .i64 0, .int .i64 0, .int .i64 0, .int .i64 0, .int .i64 0] (by kernel_rfl)) <| wl_v (ex_alloc inf27) <| ?_
  have hhk : h < x1.heap.size := by omega
  have hsz := hA1.size
  generalize hk : x1.heap.size = k at *
  rw [hzk]
  have hAk := hA1.trans hDk
  have hBk := hB1.old hDk
  have hrk := hr1.old hDk
  generalize x1.alloc (.cells Tok.zero.cs 27) = y1 at *
  refine wl_stL (cs' := #[.int .i64 ((n1 c).1 : Int), .int .i64 0, .int .i64 0, .int .i64 0, .int .i64 0, .int .i64 0]) inf27 rfl rfl rfl rfl hKk rfl fun z1 hK1 hV1 => wl_end ?_
  have hA1' := hV1.old hAk (by omega)
  have hB1' := hBk.upd hV1 (by omega)
  have hr1' := hrk.upd (by omega) hKk rfl hV1
  refine w_sreg (wl_v (mP rfl) <| wl_c (ec_fn en18) (qNumber h c (n1 c).2.1 (n1 c).2.2 2147483648 (by decide) (n2 c) rfl z1 hr1') ?_)
  rintro _ x2 ⟨rfl, hr2, hU2⟩
  have hK1x := hK1.upd hU2 (by omega)
  refine wl_v (ex_fld fld27_1 rfl) <| wl_st inf3 rfl rfl rfl hK1x (by simp) fun z2 hK2 hV2 => wl_end ?_
  have hA2' := hV2.old (hU2.old hA1' (by omega)) (by omega)
  have hB2' := (hB1'.upd hU2 (by omega)).upd hV2 (by omega)
  have hr2' := hr2.upd (by omega) hK1x rfl hV2
  refine w_sreg (wl_v (mP rfl) <| wl_c (ec_fn en18) (qNumber h c (n2 c).2.1 (n2 c).2.2 4095 (by decide) (n3 c) rfl z2 hr2') ?_)
  rintro _ x3 ⟨rfl, hr3, hU3⟩
  have hK2x := hK2.upd hU3 (by omega)
  refine wl_v (ex_fld fld27_2 rfl) <| wl_st inf3 rfl rfl rfl hK2x (by simp) fun z3 hK3 hV3 => wl_end ?_
  have hA3' := hV3.old (hU3.old hA2' (by omega)) (by omega)
  have hB3' := (hB2'.upd hU3 (by omega)).upd hV3 (by omega)
  have hr3' := hr3.upd (by omega) hK2x rfl hV3
  refine w_sreg (wl_v (mP rfl) <| wl_c (ec_fn en18) (qNumber h c (n3 c).2.1 (n3 c).2.2 1099511627776 (by decide) (n4 c) rfl z3 hr3') ?_)
  rintro _ x4 ⟨rfl, hr4, hU4⟩
  have hK3x := hK3.upd hU4 (by omega)
  refine wl_v (ex_fld fld27_3 rfl) <| wl_st inf3 rfl rfl rfl hK3x (by simp) fun z4 hK4 hV4 => wl_end ?_
  have hA4' := hV4.old (hU4.old hA3' (by omega)) (by omega)
  have hB4' := (hB3'.upd hU4 (by omega)).upd hV4 (by omega)
  have hr4' := hr4.upd (by omega) hK3x rfl hV4
  refine w_sreg (wl_v (mP rfl) <| wl_c (ec_fn en18) (qNumber h c (n4 c).2.1 (n4 c).2.2 1099511627776 (by decide) (n5 c) rfl z4 hr4') ?_)
  rintro _ x5 ⟨rfl, hr5, hU5⟩
  have hK4x := hK4.upd hU5 (by omega)
  refine wl_v (ex_fld fld27_4 rfl) <| wl_st inf3 rfl rfl rfl hK4x (by simp) fun z5 hK5 hV5 => wl_end ?_
  have hA5' := hV5.old (hU5.old hA4' (by omega)) (by omega)
  have hB5' := (hB4'.upd hU5 (by omega)).upd hV5 (by omega)
  have hr5' := hr5.upd (by omega) hK4x rfl hV5
  refine w_sreg (wl_v (mP rfl) <| wl_c (ec_fn en18) (qNumber h c (n5 c).2.1 (n5 c).2.2 1048576 (by decide) (n6 c) rfl z5 hr5') ?_)
  rintro _ x6 ⟨rfl, hr6, hU6⟩
  have hK5x := hK5.upd hU6 (by omega)
  refine wl_v (ex_fld fld27_5 rfl) <| wl_st inf3 rfl rfl rfl hK5x (by simp) fun z6 hK6 hV6 => wl_end ?_
  have hA6' := hV6.old (hU6.old hA5' (by omega)) (by omega)
  have hB6' := (hB5'.upd hU6 (by omega)).upd hV6 (by omega)
  have hr6' := hr6.upd (by omega) hK5x rfl hV6
  have hK6' : Box z6 k 27 (tokOf c).cs := hK6
  clear hK1 hK2 hK3 hK4 hK5 hK6 hK1x hK2x hK3x hK4x hK5x hB1' hB2' hB3' hB4' hB5' hA1' hA2' hA3' hA4' hA5' hr1 hr1' hr2 hr2' hr3 hr3' hr4 hr4' hr5 hr5' hr6 hU1 hU2 hU3 hU4 hU5 hU6 hV1 hV2 hV3 hV4 hV5 hV6
  refine w_sreg (wl_v (mP rfl) <| wl_c (ec_fn en19) (qBytes h c (n6 c).2.1 (n6 c).2.2 32 (by decide) (n7 c) rfl z6 hr6') ?_)
  rintro v8 x8 ⟨hv8, hr8, hU8⟩
  have hA8 := hU8.old hA6' (by omega)
  have hB8 := hB6'.upd hU8 (by omega)
  have hK8 := hK6'.upd hU8 (by omega)
  refine wl_v (aV (v := v8) rfl) <| wl_end ?_
  refine w_seq ?_
  refine w_sreg (wl_v (mP rfl) <| wl_c (ec_fn en20) (qDone h c (n7 c).2.1 (n7 c).2.2 (doneOf c) rfl x8 hr8) ?_)
  rintro _ x9 ⟨rfl, HB9⟩
  have hA9 := hA8.trans HB9
  have hB9 := hB8.old HB9
  have hK9 := hK8.old HB9
  have hv9 := hv8.old HB9
  have hr9 := hr8.old HB9
  have hdn : doneOf c = doneV c (n7 c).2.1 (n7 c).2.2 := rfl
  generalize doneOf c = dn at *
  refine wl_v (ex_neq rfl rfl) <| wl_end ?_
  refine w_ifn rfl (fun h3 => ?_) (fun h3 => ?_)
  · rw [if_pos (by omega)] at hO
    refine w_sreg (wl_v (ex_build Tok.zero.cs (by kernel_rfl)) <| wl_v (mP rfl) <| wl_c (ec_fn en20) (qDone h c (n7 c).2.1 (n7 c).2.2 dn hdn x9 hr9) ?_)
    rintro _ x10 ⟨rfl, HB10⟩
    refine wl_stL (cs' := Tok.zero.cs) inf27 rfl rfl rfl rfl (hB9.old HB10) rfl fun w3 hB3 hU3 => wl_v (aS rfl) <| wl_v (aI rfl) <| wl_end ?_
    refine w_ret (ret_then (end3A rfl Try.underlying27 rfl inf27 rfl hB3 rfl ⟨_, rfl, .slice none 0 0, ?_, ?_, hU3.old (hA9.trans HB10) (by omega)⟩))
    · rw [hO]; rfl
    · rw [hO]; exact IsB.nil _
  refine w_skip (then_k ?_)
  rw [if_neg (by omega)] at hO
  refine w_seq ?_
  refine w_sreg (wl_v (ex_ldA Try.underlying27 rfl inf27 rfl hK9 rfl) <| wl_c (ec_fn en21) (R10_May (tokOf c) x9) ?_)
  rintro _ x10 ⟨rfl, HB10⟩
  have hA10 := hA9.trans HB10
  have hB10 := hB9.old HB10
  have hK10 := hK9.old HB10
  have hv10 := hv9.old HB10
  refine wl_v (ex_not rfl) <| wl_v (mB rfl) <| wl_or 3 3 [51, 52, 53] rfl rfl rfl rfl (fun hp => wl_gy rfl (congrArg Value.bool hp) <| wl_v (mV (v := v8) rfl) <| wl_gy rfl (congrArg Value.bool hp) <| wl_v (ex_lenB Try.underlying23 rfl hv10) <| wl_gy rfl (congrArg Value.bool hp) <| wl_v (ex_neq rfl rfl) <| wl_nil (amp_end (ag3 rfl rfl rfl) rfl rfl)) fun _ => wl_end ?_
  refine w_if rfl (fun h4 => ?_) (fun h4 => ?_)
  · have h4' : ¬ (tokOf c).may ∨ (n7 c).1.length ≠ 32 := by
      simp only [Bool.or_eq_true, Bool.not_eq_true', decide_eq_false_iff_not] at h4
      rcases h4 with h4 | h4
      · exact .inl h4
      · exact .inr (by omega)
    rw [if_pos h4'] at hO
    refine w_sreg (wl_v (ex_build Tok.zero.cs (by kernel_rfl)) <| wl_stL (cs' := Tok.zero.cs) inf27 rfl rfl rfl rfl hB10 rfl fun w3 hB3 hU3 => wl_v (aS rfl) <| wl_v (aI rfl) <| wl_end ?_)
    refine w_ret (ret_then (end3A rfl Try.underlying27 rfl inf27 rfl hB3 rfl ⟨_, rfl, .slice none 0 0, ?_, ?_, hU3.old hA10 (by omega)⟩))
    · rw [hO]; rfl
    · rw [hO]; exact IsB.nil _
  have h4' : ¬ (¬ (tokOf c).may ∨ (n7 c).1.length ≠ 32) := by
    simp only [Bool.or_eq_false_iff, Bool.not_eq_false', decide_eq_true_eq] at h4
    exact fun h => h.elim (fun h => h h4.1) (fun h => h (by omega))
  rw [if_neg h4'] at hO
  refine w_skip (then_k ?_)
  refine w_sreg (wl_v (ex_ldA Try.underlying27 rfl inf27 rfl hK10 rfl) <| wl_v (mV (v := v8) rfl) <| wl_stL (cs' := (tokOf c).cs) inf27 rfl rfl rfl rfl hB10 rfl fun w3 hB3 hU3 => wl_v (aV (v := v8) rfl) <| wl_v (aI rfl) <| wl_end ?_)
  refine w_ret (end3A rfl Try.underlying27 rfl inf27 rfl hB3 rfl ⟨_, rfl, v8, ?_, ?_, hU3.old hA10 (by omega)⟩)
  · rw [hO]
    exact congrArg (fun u => Value.tuple #[.agg (tokOf c).cs, u, .int .i64 0]) (show _ = v8 from rfl)
  · rw [hO]; dsimp only; exact hv10.upd hB10 (by simp [noU8, Tok.zero, Tok.cs]) hU3
end Go.Proofs.Ytcceeigkgklkoaa
