/- frame, viaticumref04: what they return. -/
import Derived.Test.YtcceeigkgklkoaaFrameP
namespace Go.Proofs.Ytcceeigkgklkoaa
open Go.RowKit

theorem cells_bvs (l : List UInt8) : ∀ v ∈ bvs l, v.cells = #[v] := by
  intro v hv
  simp only [bvs, List.mem_map] at hv
  obtain ⟨b, _, rfl⟩ := hv
  rfl
theorem grown2 {a w w' : World} {v : Value} {l : List UInt8} (h : Old a w) (hO : OwnB a.heap.size w v l) (hg : w.grownBy w' v.ownBlock) : Old a w' := h.grown hg hO.ge
theorem frame_Put (kind : UInt8) (l : List UInt8) (v : Value) (w : World) (hv : IsB w v l) :
    Calls Try.prog 27 #[.int .u8 (kind.toNat : Int), v] w fun e w' => ∃ v, e = .returned v ∧ ∃ u, v = .tuple #[u, .int .i64 (if l.length ≤ 1048576 then 0 else 3)] ∧ OwnB w.heap.size w' u (if l.length ≤ 1048576 then putF kind l else []) ∧ Old w w' := by
  refine enter (l := [_, _]) 25 Try.func27 rfl rfl (by simp) ?_
  refine w_sreg (wl_v (aS rfl) <| wl_v (aI rfl) <| wl_end ?_)
  refine w_seq ?_
  refine w_sreg (wl_v (mV (v := v) rfl) <| wl_v (ex_lenB Try.underlying23 rfl hv) <| wl_v (ex_gtr rfl rfl) <| wl_end ?_)
  refine w_ifp rfl (fun h1 => ?_) (fun h1 => ?_)
  · refine w_sreg (wl_v (aS rfl) <| wl_v (aI rfl) <| wl_end ?_)
    refine w_ret (ret_then (end2 rfl ⟨_, rfl, .slice none 0 0, ?_, ?_, Old.refl _⟩))
    · rw [if_neg (by omega)]; rfl
    · rw [if_neg (by omega)]; exact OwnB.nil _ _
  refine w_skip (then_k ?_)
  have hl : l.length ≤ 1048576 := by omega
  rw [if_pos hl, if_pos hl]
  have HL := OwnB.new w [199, kind] (by simp)
  have hpl := putv_len10 (n := l.length) (by omega)
  refine w_sreg (wl_v (mI rfl) <| wl_v (ex_buildN Try.underlying23 inf5 (bvs [199, kind]) rfl (cells_bvs _) rfl (by decide) (by decide)) <| wl_v (mV (v := v) rfl) <| wl_v (ex_lenB Try.underlying23 rfl hv) <| wl_v (ex_convW Try.underlying3 Try.underlying71 rfl (u64id (by omega))) <| wl_c (ec_fn en48) (varint_Put l.length (by omega) _) ?_)
  rintro v2 w2 ⟨HO2, HB2⟩
  have HL2 := HL.old HB2
  have HA2 : Old w w2 := Old.trans ((Old.refl w).alloc _) HB2
  refine wl_appV rfl HL2 rfl HO2.isB (by simp; omega) HA2.size fun v3 w3 HO3 hg3 _ => wl_v (aV (v := v3) rfl) <| wl_end ?_
  have HA3 := grown2 HA2 HL2 hg3
  refine w_sreg (wl_v (mV (v := v3) rfl) <| wl_v (mV (v := v) rfl) <| wl_appV rfl HO3 rfl (hv.old HA3) (by simp; omega) HA3.size fun v4 w4 HO4 hg4 _ => wl_v (aV (v := v4) rfl) <| wl_end ?_)
  have HA4 := grown2 HA3 HO3 hg4
  have hh : [199, kind] ++ putv l.length ++ l = headF kind l := by simp [headF]
  rw [hh] at HO4
  refine w_sreg (wl_v (mV (v := v4) rfl) <| wl_v (mV (v := v4) rfl) <| wl_c (ec_fn en50) (crc_Sum _ v4 w4 HO4.isB) ?_)
  rintro _ w5 ⟨rfl, HB5⟩
  refine wl_c (ec_fn en49) (crc_Bytes (crcv (headF kind l)) w5) ?_
  rintro v6 w6 ⟨HO6, HB6⟩
  have HB46 := HB5.trans HB6
  have HA6 : Old w w6 := HA4.trans HB46
  have hhl := headF_len kind l
  refine wl_appV rfl (HO4.old HB46) rfl HO6.isB (by rw [hhl, bytes4_len]; omega) HA6.size fun v7 w7 HO7 hg7 _ => wl_v (aV (v := v7) rfl) <| wl_v (aI rfl) <| wl_end ?_
  exact w_ret (end2 rfl ⟨_, rfl, v7, rfl, HO7, grown2 HA6 (HO4.old HB46) hg7⟩)

theorem R4_Put (kind : UInt8) (l : List UInt8) (v : Value) (w : World) (hv : IsB w v l) (hl : l.length ≤ 4294967296) :
    Calls Try.prog 12 #[.int .u8 (kind.toNat : Int), v] w fun e w' => ∃ v, e = .returned v ∧ OwnB w.heap.size w' v (putF kind l) ∧ Old w w' := by
  refine enter (l := [_, _]) 22 Try.func12 rfl rfl (by simp) ?_
  refine w_sreg (wl_v (aS rfl) <| wl_end ?_)
  have HL := OwnB.new w [199, kind] (by simp)
  have HA1 : Old w (w.alloc (.cells (bvs [199, kind]).toArray 5)) := (Old.refl w).alloc _
  have hpl := putv_len10 (n := l.length) (by omega)
  refine w_sreg (wl_v (mI rfl) <| wl_v (ex_buildN Try.underlying23 inf5 (bvs [199, kind]) rfl (cells_bvs _) rfl (by decide) (by decide)) <| wl_v (aS rfl) <| wl_end ?_)
  refine w_sreg (wl_v (mS rfl) <| wl_v (mV (v := v) rfl) <| wl_v (ex_lenB Try.underlying23 rfl hv) <| wl_v (ex_convW Try.underlying3 Try.underlying71 rfl (u64id (by omega))) <| wl_c (ec_fn en30) (R1_Put l.length (by omega) _) ?_)
  rintro v2 w2 ⟨HO2, HB2⟩
  have HL2 := HL.old HB2
  have HA2 : Old w w2 := Old.trans HA1 HB2
  refine wl_appV rfl HL2 rfl HO2.isB (by simp; omega) HA2.size fun v3 w3 HO3 hg3 _ => wl_v (aV (v := v3) rfl) <| wl_end ?_
  have HA3 := grown2 HA2 HL2 hg3
  refine w_sreg (wl_v (mV (v := v3) rfl) <| wl_v (mV (v := v) rfl) <| wl_appV rfl HO3 rfl (hv.old HA3) (by simp; omega) HA3.size fun v4 w4 HO4 hg4 _ => wl_v (aV (v := v4) rfl) <| wl_end ?_)
  have HA4 := grown2 HA3 HO3 hg4
  have hh : [199, kind] ++ putv l.length ++ l = headF kind l := by simp [headF]
  rw [hh] at HO4
  refine w_sreg (wl_v (mV (v := v4) rfl) <| wl_v (mV (v := v4) rfl) <| wl_c (ec_fn en32) (R2_Sum _ v4 w4 HO4.isB) ?_)
  rintro _ w5 ⟨rfl, rfl⟩
  refine wl_c (ec_fn en31) (R2_Bytes (crcv (headF kind l)) (crcv_lt _) w5) ?_
  rintro v6 w6 ⟨HO6, HB6⟩
  have HA6 : Old w w6 := HA4.trans HB6
  have hhl := headF_len kind l
  refine wl_appV rfl (HO4.old HB6) rfl HO6.isB (by rw [hhl, bytes4_len]; omega) HA6.size fun v7 w7 HO7 hg7 _ => wl_v (aV (v := v7) rfl) <| wl_end ?_
  exact w_ret (end1 rfl ⟨_, rfl, HO7, grown2 HA6 (HO4.old HB6) hg7⟩)
/-- The four results of Take. -/
def TakeR (w w' : World) (v : Value) (b : List UInt8) : Prop := ∃ u, v = .tuple #[.int .u8 ((takeF b).1 : Int), u, .int .i64 ((takeF b).2.2.1 : Int), .int .i64 ((takeF b).2.2.2 : Int)] ∧ IsB w' u (takeF b).2.1 ∧ Old w w'
theorem IsB.lt {w : World} {v : Value} {l : List UInt8} (h : IsB w v l) : l.length ≤ 9223372036854775807 := by
  obtain ⟨A, c, _, h1, h2, _⟩ := h; omega
theorem takeF_short {b : List UInt8} (h : b.length = 0) : takeF b = (0, [], 0, 10) := by rw [takeF, dif_pos h]
theorem takeF_mark {b : List UInt8} (h : b.length ≠ 0) (h0 : b[0].toNat ≠ 199) : takeF b = (0, [], 0, 11) := by rw [takeF, dif_neg h, if_pos h0]
theorem takeF_one {b : List UInt8} (h : b.length = 1) (h0 : b[0].toNat = 199) : takeF b = (0, [], 0, 10) := by rw [takeF, dif_neg (by omega), if_neg (by omega), dif_pos h]
theorem takeF_rest {b : List UInt8} (h : 1 < b.length) (h0 : b[0].toNat = 199) : takeF b = if (takev (b.drop 2)).2.2 ≠ 0 then (0, [], 0, (takev (b.drop 2)).2.2) else if 1048576 < (takev (b.drop 2)).1 then (0, [], 0, 3) else if b.length < 2 + (takev (b.drop 2)).2.1 + (takev (b.drop 2)).1 + 4 then (0, [], 0, 10)
    else if b.take (2 + (takev (b.drop 2)).2.1 + (takev (b.drop 2)).1 + 4) ≠ putF b[1] ((b.drop (2 + (takev (b.drop 2)).2.1)).take (takev (b.drop 2)).1) then (0, [], 0, 12)
    else (b[1].toNat, (b.drop (2 + (takev (b.drop 2)).2.1)).take (takev (b.drop 2)).1, 2 + (takev (b.drop 2)).2.1 + (takev (b.drop 2)).1 + 4, 0) := by
  rw [takeF, dif_neg (by omega), if_neg (by omega), dif_neg (by omega)]

theorem frame_Take (b : List UInt8) (v : Value) (w : World) (hv : IsB w v b) :
    Calls Try.prog 53 #[v] w fun e w' => ∃ v, e = .returned v ∧ TakeR w w' v b := by
  refine enter (l := [_]) 64 Try.func53 rfl rfl (by simp) ?_
  refine w_sreg (wl_v (aI rfl) <| wl_v (aS rfl) <| wl_v (aI rfl) <| wl_v (aI rfl) <| wl_end ?_)
  refine w_scope 0 (fun k f w' => ∃ (e : Nat), f 5 = .int .i64 (e : Int) ∧ takeF b = (0, [], 0, e) ∧ Old w w') rfl ?_ ?_
  · rintro k f w' ⟨e, h5, he, HB⟩
    obtain ⟨f, rfl⟩ := xp1 h5
    refine w_sreg (wl_v (mI rfl) <| wl_v (aI rfl) <| wl_v (aS rfl) <| wl_v (aI rfl) <| wl_v (aI rfl) <| wl_end ?_)
    refine w_ret (ret_jump (end4 rfl ⟨_, rfl, .slice none 0 0, ?_, ?_, HB⟩))
    · rw [he]; rfl
    · rw [he]; exact IsB.nil _
  intro hr
  have hmax := hv.lt
  refine w_sreg (wl_v (aI rfl) <| wl_end ?_)
  refine w_sreg (wl_v (aI rfl) <| wl_v (aI rfl) <| wl_end ?_)
  refine w_sreg (wl_v (aI rfl) <| wl_end ?_)
  refine w_seq ?_
  refine w_sreg (wl_v (mV (v := v) rfl) <| wl_v (ex_lenB Try.underlying23 rfl hv) <| wl_v (ex_eql rfl rfl) <| wl_end ?_)
  refine w_ifp rfl (fun h2 => ?_) (fun h2 => ?_)
  · exact w_goto (goto_then (goto_jump0 0 ⟨10, rfl, takeF_short (by omega), Old.refl _⟩))
  refine w_skip (then_k ?_)
  have hpos : 0 < b.length := by omega
  obtain ⟨ad, c, rfl, hcell⟩ := byteAt hv hpos
  refine w_seq ?_
  refine w_sreg (wl_v (mS rfl) <| wl_v (ex_idx1 (j := 0) Try.underlying23 inf5 rfl rfl rfl hpos) <| wl_v (ex_load1 Try.underlying5 rfl hcell) <| wl_v (ex_neq rfl rfl) <| wl_end ?_)
  refine w_ifn rfl (fun h3 => ?_) (fun h3 => ?_)
  · refine w_sreg (wl_v (aI rfl) <| wl_end ?_)
    exact w_goto (goto_then (goto_jump0 0 ⟨11, rfl, takeF_mark (by omega) (by omega), Old.refl _⟩))
  refine w_skip (then_k ?_)
  have h0 : b[0].toNat = 199 := by omega
  refine w_seq ?_
  refine w_sreg (wl_v (mS rfl) <| wl_v (ex_len Try.underlying23 rfl) <| wl_v (ex_eql rfl rfl) <| wl_end ?_)
  refine w_ifp rfl (fun h4 => ?_) (fun h4 => ?_)
  · exact w_goto (goto_then (goto_jump0 0 ⟨10, rfl, takeF_one (by omega) h0, Old.refl _⟩))
  refine w_skip (then_k ?_)
  have h1 : 1 < b.length := by omega
  have hF := takeF_rest h1 h0
  have hsp := @takev_spec (b.drop 2)
  have hsum := sum_is h1 h0
  obtain ⟨v2, hs2, hv2⟩ := subB hv 2 b.length (by omega) (Nat.le_refl _)
  have e2 : (b.drop 2).take (b.length - 2) = b.drop 2 := by rw [List.take_of_length_le (by rw [List.length_drop]; omega)]
  rw [e2] at hv2
  refine w_sreg (wl_v (mS rfl) <| wl_v (ex_subLo (i := 2) Try.underlying23 inf5 rfl hs2 rfl rfl) <| wl_c (ec_fn en61) (varint_Take _ v2 w hv2) ?_)
  rintro _ w1 ⟨rfl, rfl⟩
  have hdl : (b.drop 2).length = b.length - 2 := by rw [List.length_drop]
  generalize hn : (takev (b.drop 2)).1 = n at *
  generalize hk : (takev (b.drop 2)).2.1 = k at *
  generalize he : (takev (b.drop 2)).2.2 = e at *
  refine wl_v (mT rfl) <| wl_v (ex_extract rfl rfl) <| wl_v (ex_extract rfl rfl) <| wl_v (ex_extract rfl rfl) <| wl_v (aI rfl) <| wl_v (aI rfl) <| wl_v (aI rfl) <| wl_end ?_
  refine w_seq ?_
  refine w_sreg (wl_v (mI rfl) <| wl_v (ex_neq rfl rfl) <| wl_end ?_)
  refine w_ifn rfl (fun h5 => ?_) (fun h5 => ?_)
  · exact w_goto (goto_then (goto_jump0 0 ⟨e, rfl, by rw [hF, if_pos (by omega)], Old.refl _⟩))
  refine w_skip (then_k ?_)
  have he0 : e = 0 := by omega
  subst he0
  obtain ⟨k1, k2, k3, k4, k5⟩ := hsp rfl
  rw [if_neg (by simp)] at hF
  refine w_seq ?_
  refine w_sreg (wl_v (mI rfl) <| wl_v (ex_gtr rfl rfl) <| wl_end ?_)
  refine w_ifp rfl (fun h6 => ?_) (fun h6 => ?_)
  · refine w_sreg (wl_v (aI rfl) <| wl_end ?_)
    exact w_goto (goto_then (goto_jump0 0 ⟨3, rfl, by rw [hF, if_pos (by omega)], Old.refl _⟩))
  refine w_skip (then_k ?_)
  rw [if_neg (by omega)] at hF
  refine w_sreg (wl_v (mI rfl) <| wl_v (ex_addW (c := ((2 + k : Nat) : Int)) rfl rfl (by rw [wrap64_id (by omega) (by omega)]; omega)) <| wl_v (mI rfl) <| wl_v (ex_convW Try.underlying71 Try.underlying3 rfl (i64id (by omega))) <| wl_v (ex_addW (c := ((2 + k + n : Nat) : Int)) rfl rfl (by rw [wrap64_id (by omega) (by omega)]; omega)) <| wl_v (aI rfl) <| wl_end ?_)
  refine w_seq ?_
  refine w_sreg (wl_v (mI rfl) <| wl_v (ex_add64 rfl rfl (by omega) (by omega)) <| wl_v (mS rfl) <| wl_v (ex_len Try.underlying23 rfl) <| wl_v (ex_gtr rfl rfl) <| wl_end ?_)
  refine w_ifp rfl (fun h7 => ?_) (fun h7 => ?_)
  · refine w_sreg (wl_v (aI rfl) <| wl_end ?_)
    exact w_goto (goto_then (goto_jump0 0 ⟨10, rfl, by rw [hF, if_pos (by omega)], Old.refl _⟩))
  refine w_skip (then_k ?_)
  have hall : 2 + k + n + 4 ≤ b.length := by omega
  rw [if_neg (by omega)] at hF
  have hsum := hsum rfl hall
  obtain ⟨v3, hs3, hv3⟩ := subB hv (2 + k + n) (2 + k + n + 4) (by omega) hall
  obtain ⟨v4, hs4, hv4⟩ := subB hv 0 (2 + k + n) (by omega) (by omega)
  obtain ⟨v5, hs5, hv5⟩ := subB hv (2 + k) (2 + k + n) (by omega) (by omega)
  rw [show 2 + k + n + 4 - (2 + k + n) = 4 from by omega] at hv3
  rw [List.drop_zero, Nat.sub_zero] at hv4
  rw [show 2 + k + n - (2 + k) = n from by omega] at hv5
  refine w_seq ?_
  refine w_sdraw (fun W => Old w1 W) [(0, true), (1, true), (2, true), (3, true), (4, true), (5, true), (6, true), (7, true), (8, false), (9, false), (10, false), (11, true)] mixed (by decide +kernel) (Old.refl _).drew ?_
  refine wd_f rfl rfl (fun W hS => mS rfl) <| wd_f rfl rfl (fun W hS => mI rfl) <| wd_f rfl rfl (fun W hS => mI rfl) <| wd_f rfl rfl (fun W hS => ex_add64 rfl rfl (by omega) (by omega)) <| wd_f rfl rfl (fun W hS => ex_subLH (j := 2 + k + n + 4) Try.underlying23 inf5 rfl hs3 rfl rfl rfl (by omega)) <| wd_f rfl rfl (fun W hS => mS rfl) <| wd_f rfl rfl (fun W hS => mI rfl) <| wd_f rfl rfl (fun W hS => ex_subHi Try.underlying23 inf5 rfl hs4 rfl rfl) <| wd_c rfl rfl (ec_fn en50) (crc_Sum _ v4 _ (hv4.old (Old.refl _).drew)) ?_
  rintro _ w2 ⟨rfl, HB2⟩
  have HB2 : Old w1 w2 := Old.trans (Old.refl _).drew HB2
  refine ⟨HB2, ?_⟩
  refine wd_c rfl rfl (ec_fn en49) (crc_Bytes _ w2) ?_
  rintro v6 w3 ⟨HO6, HB3⟩
  have HB3 : Old w1 w3 := HB2.trans HB3
  refine ⟨HB3, ?_⟩
  refine wd_c rfl rfl (ec_fn en62) (bytes_Equal _ _ v3 v6 w3 (hv3.old HB3) HO6.isB) ?_
  rintro _ w4 ⟨rfl, rfl⟩
  refine ⟨HB3, ?_⟩
  refine wd_f rfl rfl (fun W hS => ex_not rfl) <| wd_nil ?_
  refine w_ifn rfl (fun h8 => ?_) (fun h8 => ?_)
  · refine w_sreg (wl_v (aI rfl) <| wl_end ?_)
    exact w_goto (goto_then (goto_jump0 0 ⟨12, rfl, by rw [hF, if_pos (fun h => h8 (hsum.1 h))], HB3⟩))
  refine w_skip (then_k ?_)
  rw [if_neg (fun h => h (hsum.2 h8))] at hF
  obtain ⟨ad', c', e', hcell'⟩ := byteAt hv h1
  injection e' with e1 _ e3
  injection e1 with e1
  subst e1
  refine w_seq ?_
  refine w_sdraw (fun W => Old w1 W) [(0, true), (1, true), (2, true), (3, true), (4, true), (5, true), (6, true), (7, true), (9, true), (10, true), (8, false), (11, true), (12, true), (13, true), (14, true)] mixed (by decide +kernel) HB3.drew ?_
  refine wd_f rfl rfl (fun W hS => mS rfl) <| wd_f rfl rfl (fun W hS => ex_idx1 (j := 1) Try.underlying23 inf5 rfl rfl rfl h1) <| wd_f rfl rfl (fun W hS => ex_load1 Try.underlying5 rfl (Old.cell hS hcell')) <| wd_f rfl rfl (fun W hS => mS rfl) <| wd_f rfl rfl (fun W hS => mI rfl) <| wd_f rfl rfl (fun W hS => ex_addW (c := ((2 + k : Nat) : Int)) rfl rfl (by rw [wrap64_id (by omega) (by omega)]; omega)) <| wd_f rfl rfl (fun W hS => mI rfl) <| wd_f rfl rfl (fun W hS => ex_subLH Try.underlying23 inf5 rfl hs5 rfl rfl rfl rfl) <| wd_f rfl rfl (fun W hS => mI rfl) <| wd_f rfl rfl (fun W hS => ex_add64 rfl rfl (by omega) (by omega)) <| wd_c rfl rfl (ec_fn en23) (clone _ v5 _ (hv5.old HB3.drew) (by rw [List.length_take]; omega)) ?_
  rintro v7 w5 ⟨HO7, HB5⟩
  have HB5 : Old w1 w5 := HB3.drew.trans HB5
  refine ⟨HB5, ?_⟩
  refine wd_f rfl rfl (fun W hS => aI rfl) <| wd_f rfl rfl (fun W hS => aV (v := v7) rfl) <| wd_f rfl rfl (fun W hS => aI rfl) <| wd_f rfl rfl (fun W hS => aI rfl) <| wd_nil ?_
  refine w_ret (ret_then (ret_jump (end4 rfl ⟨_, rfl, v7, ?_, ?_, HB5⟩)))
  · rw [hF]; rfl
  · rw [hF]; exact HO7.isB

theorem R4_Take (b : List UInt8) (v : Value) (w : World) (hv : IsB w v b) :
    Calls Try.prog 36 #[v] w fun e w' => ∃ v, e = .returned v ∧ TakeR w w' v b := by
  refine enter (l := [_]) 64 Try.func36 rfl rfl (by simp) ?_
  refine w_sreg (wl_v (aI rfl) <| wl_v (aS rfl) <| wl_v (aI rfl) <| wl_v (aI rfl) <| wl_end ?_)
  have hmax := hv.lt
  refine w_seq ?_
  refine w_sreg (wl_v (mV (v := v) rfl) <| wl_v (ex_lenB Try.underlying23 rfl hv) <| wl_v (ex_eql rfl rfl) <| wl_end ?_)
  refine w_ifp rfl (fun h2 => ?_) (fun h2 => ?_)
  · refine w_sreg (wl_v (aI rfl) <| wl_v (aS rfl) <| wl_v (aI rfl) <| wl_v (aI rfl) <| wl_end ?_)
    have he := takeF_short (b := b) (by omega)
    refine w_ret (ret_then (end4 rfl ⟨_, rfl, .slice none 0 0, ?_, ?_, Old.refl _⟩))
    · rw [he]; rfl
    · rw [he]; exact IsB.nil _
  refine w_skip (then_k ?_)
  have hpos : 0 < b.length := by omega
  obtain ⟨ad, c, rfl, hcell⟩ := byteAt hv hpos
  refine w_seq ?_
  refine w_sreg (wl_v (mS rfl) <| wl_v (ex_idx1 (j := 0) Try.underlying23 inf5 rfl rfl rfl hpos) <| wl_v (ex_load1 Try.underlying5 rfl hcell) <| wl_v (ex_neq rfl rfl) <| wl_end ?_)
  refine w_ifn rfl (fun h3 => ?_) (fun h3 => ?_)
  · refine w_sreg (wl_v (aI rfl) <| wl_v (aS rfl) <| wl_v (aI rfl) <| wl_v (aI rfl) <| wl_end ?_)
    have he := takeF_mark (b := b) (by omega) (by omega)
    refine w_ret (ret_then (end4 rfl ⟨_, rfl, .slice none 0 0, ?_, ?_, Old.refl _⟩))
    · rw [he]; rfl
    · rw [he]; exact IsB.nil _
  refine w_skip (then_k ?_)
  have h0 : b[0].toNat = 199 := by omega
  refine w_seq ?_
  refine w_sreg (wl_v (mS rfl) <| wl_v (ex_len Try.underlying23 rfl) <| wl_v (ex_lss rfl rfl) <| wl_end ?_)
  refine w_ifp rfl (fun h4 => ?_) (fun h4 => ?_)
  · refine w_sreg (wl_v (aI rfl) <| wl_v (aS rfl) <| wl_v (aI rfl) <| wl_v (aI rfl) <| wl_end ?_)
    have he := takeF_one (b := b) (by omega) h0
    refine w_ret (ret_then (end4 rfl ⟨_, rfl, .slice none 0 0, ?_, ?_, Old.refl _⟩))
    · rw [he]; rfl
    · rw [he]; exact IsB.nil _
  refine w_skip (then_k ?_)
  have h1 : 1 < b.length := by omega
  have hF := takeF_rest h1 h0
  have hsp := @takev_spec (b.drop 2)
  obtain ⟨v2, hs2, hv2⟩ := subB hv 2 b.length (by omega) (Nat.le_refl _)
  have e2 : (b.drop 2).take (b.length - 2) = b.drop 2 := by rw [List.take_of_length_le (by rw [List.length_drop]; omega)]
  rw [e2] at hv2
  refine w_sreg (wl_v (mS rfl) <| wl_v (ex_subLo (i := 2) Try.underlying23 inf5 rfl hs2 rfl rfl) <| wl_c (ec_fn en52) (R1_Take _ v2 w hv2) ?_)
  rintro _ w1 ⟨rfl, rfl⟩
  have hdl : (b.drop 2).length = b.length - 2 := by rw [List.length_drop]
  generalize hn : (takev (b.drop 2)).1 = n at *
  generalize hk : (takev (b.drop 2)).2.1 = k at *
  generalize he : (takev (b.drop 2)).2.2 = e at *
  refine wl_v (mT rfl) <| wl_v (ex_extract rfl rfl) <| wl_v (ex_extract rfl rfl) <| wl_v (ex_extract rfl rfl) <| wl_v (aI rfl) <| wl_v (aI rfl) <| wl_v (aI rfl) <| wl_end ?_
  refine w_seq ?_
  refine w_sreg (wl_v (mI rfl) <| wl_v (ex_neq rfl rfl) <| wl_end ?_)
  refine w_ifn rfl (fun h5 => ?_) (fun h5 => ?_)
  · refine w_sreg (wl_v (mI rfl) <| wl_v (aI rfl) <| wl_v (aS rfl) <| wl_v (aI rfl) <| wl_v (aI rfl) <| wl_end ?_)
    rw [if_pos (by omega)] at hF
    refine w_ret (ret_then (end4 rfl ⟨_, rfl, .slice none 0 0, ?_, ?_, Old.refl _⟩))
    · rw [hF]; rfl
    · rw [hF]; exact IsB.nil _
  refine w_skip (then_k ?_)
  have he0 : e = 0 := by omega
  subst he0
  obtain ⟨k1, k2, k3, k4, k5⟩ := hsp rfl
  rw [if_neg (by simp)] at hF
  refine w_seq ?_
  refine w_sreg (wl_v (mI rfl) <| wl_v (ex_gtr rfl rfl) <| wl_end ?_)
  refine w_ifp rfl (fun h6 => ?_) (fun h6 => ?_)
  · refine w_sreg (wl_v (aI rfl) <| wl_v (aS rfl) <| wl_v (aI rfl) <| wl_v (aI rfl) <| wl_end ?_)
    rw [if_pos (by omega)] at hF
    refine w_ret (ret_then (end4 rfl ⟨_, rfl, .slice none 0 0, ?_, ?_, Old.refl _⟩))
    · rw [hF]; rfl
    · rw [hF]; exact IsB.nil _
  refine w_skip (then_k ?_)
  rw [if_neg (by omega)] at hF
  refine w_sreg (wl_v (mI rfl) <| wl_v (ex_addW (c := ((2 + k : Nat) : Int)) rfl rfl (by rw [wrap64_id (by omega) (by omega)]; omega)) <| wl_v (mI rfl) <| wl_v (ex_convW Try.underlying71 Try.underlying3 rfl (i64id (by omega))) <| wl_v (ex_addW (c := ((2 + k + n : Nat) : Int)) rfl rfl (by rw [wrap64_id (by omega) (by omega)]; omega)) <| wl_v (ex_addW (c := ((2 + k + n + 4 : Nat) : Int)) rfl rfl (by rw [wrap64_id (by omega) (by omega)]; omega)) <| wl_v (aI rfl) <| wl_end ?_)
  refine w_seq ?_
  refine w_sreg (wl_v (mS rfl) <| wl_v (ex_len Try.underlying23 rfl) <| wl_v (mI rfl) <| wl_v (ex_lss rfl rfl) <| wl_end ?_)
  refine w_ifp rfl (fun h7 => ?_) (fun h7 => ?_)
  · refine w_sreg (wl_v (aI rfl) <| wl_v (aS rfl) <| wl_v (aI rfl) <| wl_v (aI rfl) <| wl_end ?_)
    rw [if_pos (by omega)] at hF
    refine w_ret (ret_then (end4 rfl ⟨_, rfl, .slice none 0 0, ?_, ?_, Old.refl _⟩))
    · rw [hF]; rfl
    · rw [hF]; exact IsB.nil _
  refine w_skip (then_k ?_)
  have hall : 2 + k + n + 4 ≤ b.length := by omega
  rw [if_neg (by omega)] at hF
  obtain ⟨v4, hs4, hv4⟩ := subB hv 0 (2 + k + n + 4) (by omega) hall
  obtain ⟨v5, hs5, hv5⟩ := subB hv (2 + k) (2 + k + n) (by omega) (by omega)
  rw [List.drop_zero, Nat.sub_zero] at hv4
  rw [show 2 + k + n - (2 + k) = n from by omega] at hv5
  obtain ⟨ad', c', e', hcell'⟩ := byteAt hv h1
  injection e' with e1 _ e3
  injection e1 with e1
  subst e1
  refine w_sreg (wl_v (mS rfl) <| wl_v (mI rfl) <| wl_v (ex_addW (c := ((2 + k : Nat) : Int)) rfl rfl (by rw [wrap64_id (by omega) (by omega)]; omega)) <| wl_v (mI rfl) <| wl_v (ex_subW (c := ((2 + k + n : Nat) : Int)) rfl rfl (by rw [wrap64_id (by omega) (by omega)]; omega)) <| wl_v (ex_subLH Try.underlying23 inf5 rfl hs5 rfl rfl rfl rfl) <| wl_v (aV (v := v5) rfl) <| wl_end ?_)
  refine w_seq ?_
  refine w_sdraw (fun W => Old w1 W) [(0, true), (1, true), (2, true), (3, true), (5, true), (6, true), (7, true), (4, false), (8, false), (9, true)] mixed (by decide +kernel) (Old.refl _).drew ?_
  refine wd_f rfl rfl (fun W hS => mS rfl) <| wd_f rfl rfl (fun W hS => ex_idx1 (j := 1) Try.underlying23 inf5 rfl rfl rfl h1) <| wd_f rfl rfl (fun W hS => ex_load1 Try.underlying5 rfl (Old.cell hS hcell')) <| wd_f rfl rfl (fun W hS => mV (v := v5) rfl) <| wd_f rfl rfl (fun W hS => mS rfl) <| wd_f rfl rfl (fun W hS => mI rfl) <| wd_f rfl rfl (fun W hS => ex_subHi Try.underlying23 inf5 rfl hs4 rfl rfl) <| wd_c rfl rfl (ec_fn en12) (R4_Put b[1] _ v5 _ (hv5.old (Old.refl _).drew) (by rw [List.length_take]; omega)) ?_
  rintro v6 w3 ⟨HO6, HB3⟩
  have HB3 : Old w1 w3 := Old.trans (Old.refl _).drew HB3
  refine ⟨HB3, ?_⟩
  refine wd_c rfl rfl (ec_fn en7) (R1_Same _ _ v6 v4 w3 HO6.isB (hv4.old HB3)) ?_
  rintro _ w4 ⟨rfl, HB4⟩
  have HB4 : Old w1 w4 := HB3.trans HB4
  refine ⟨HB4, ?_⟩
  refine wd_f rfl rfl (fun W hS => ex_not rfl) <| wd_nil ?_
  refine w_ifn rfl (fun h8 => ?_) (fun h8 => ?_)
  · refine w_sreg (wl_v (aI rfl) <| wl_v (aS rfl) <| wl_v (aI rfl) <| wl_v (aI rfl) <| wl_end ?_)
    rw [if_pos (fun h => h8 h.symm)] at hF
    refine w_ret (ret_then (end4 rfl ⟨_, rfl, .slice none 0 0, ?_, ?_, HB4⟩))
    · rw [hF]; rfl
    · rw [hF]; exact IsB.nil _
  refine w_skip (then_k ?_)
  rw [if_neg (fun h => h h8.symm)] at hF
  refine w_sreg (wl_v (mS rfl) <| wl_v (ex_idx1 (j := 1) Try.underlying23 inf5 rfl rfl rfl h1) <| wl_v (ex_load1 Try.underlying5 rfl (HB4.cell hcell')) <| wl_v (mV (v := v5) rfl) <| wl_v (mI rfl) <| wl_v (aI rfl) <| wl_v (aV (v := v5) rfl) <| wl_v (aI rfl) <| wl_v (aI rfl) <| wl_end ?_)
  refine w_ret (end4 rfl ⟨_, rfl, v5, ?_, ?_, HB4⟩)
  · rw [hF]; rfl
  · rw [hF]; exact hv5.old HB4
end Go.Proofs.Ytcceeigkgklkoaa
