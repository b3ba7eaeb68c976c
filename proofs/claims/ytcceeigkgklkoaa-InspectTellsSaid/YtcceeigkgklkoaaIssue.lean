/- viaticumref09.Right at one key, viaticumref10.Tag and Issue there. -/
import Derived.Test.YtcceeigkgklkoaaRef08
import Derived.Test.YtcceeigkgklkoaaToken2
set_option linter.unusedSimpArgs false
set_option linter.unusedVariables false
namespace Go.Proofs.Ytcceeigkgklkoaa
open Go.RowKit

theorem R9_Right1 (gk : Nat) (kb : Value) (b : List UInt8) (w : World) (hK : Box w gk 44 #[.int .i64 1, kb]) (hb : IsB w kb b) (hl : b.length = 32) :
    Calls Try.prog 34 #[.agg #[.int .i64 1, .slice (some ⟨gk, 0, none⟩) 1 1]] w fun e w' => ∃ x, e = .returned x ∧ x = .bool true ∧ Old w w' := by
  refine enter (l := [_]) 68 Try.func34 rfl rfl (by simp) ?_
  have hD : Old w (w.alloc (.cells #[.int .i64 1, .slice (some ⟨gk, 0, none⟩) 1 1] 47)) := (Old.refl w).alloc _
  have hB1 := Box.new w 47 #[.int .i64 1, .slice (some ⟨gk, 0, none⟩) 1 1]
  refine w_sreg (wl_v (ex_box (v := .agg #[.int .i64 1, .slice (some ⟨gk, 0, none⟩) 1 1]) (cs := #[.int .i64 1, .slice (some ⟨gk, 0, none⟩) 1 1]) rfl rfl) <| wl_v (aB rfl) <| wl_end ?_)
  have hK1 := hK.old hD
  have hb1 := hb.old hD
  generalize w.alloc (.cells #[.int .i64 1, .slice (some ⟨gk, 0, none⟩) 1 1] 47) = w1 at *
  generalize w.heap.size = g1 at *
  obtain ⟨kA, kc, rfl⟩ := hb.lay
  refine w_seq ?_
  refine w_sreg (wl_v (ex_fld fld47_0 rfl) <| wl_v (ex_load1 Try.underlying3 rfl (hB1.cell rfl)) <| wl_v (ex_eq (ex_lss rfl rfl) (bool_f (by decide))) <| wl_v (mB rfl) <| wl_gy rfl rfl <| wl_v (ex_fld fld47_0 rfl) <| wl_gy rfl rfl <| wl_v (ex_load1 Try.underlying3 rfl (hB1.cell rfl)) <| wl_gy rfl rfl <| wl_v (ex_eq (ex_gtr rfl rfl) (bool_f (by decide))) <| wl_v (ex_pick_f rfl rfl) <| wl_v (mB rfl) <| wl_gy rfl rfl <| wl_v (ex_fld fld47_1 rfl) <| wl_gy rfl rfl <| wl_v (ex_load1 Try.underlying45 rfl (hB1.cell rfl)) <| wl_gy rfl rfl <| wl_v (ex_len Try.underlying45 rfl) <| wl_gy rfl rfl <| wl_v (ex_eq (ex_lss rfl rfl) (bool_f (by decide))) <| wl_v (ex_pick_f rfl rfl) <| wl_v (mB rfl) <| wl_gy rfl rfl <| wl_v (ex_fld fld47_1 rfl) <| wl_gy rfl rfl <| wl_v (ex_load1 Try.underlying45 rfl (hB1.cell rfl)) <| wl_gy rfl rfl <| wl_v (ex_len Try.underlying45 rfl) <| wl_gy rfl rfl <| wl_v (ex_fld fld47_0 rfl) <| wl_gy rfl rfl <| wl_v (ex_load1 Try.underlying3 rfl (hB1.cell rfl)) <| wl_gy rfl rfl <| wl_v (ex_eq (ex_gtr rfl rfl) (bool_f (by decide))) <| wl_v (ex_pick_f rfl rfl) <| wl_end ?_)
  refine w_if_f rfl (w_skip (then_k ?_))
  refine w_seq ?_
  refine w_sreg (wl_v (aI rfl) <| wl_end ?_)
  refine w_for 3 1 (fun j f W => f 1 = .pointer (some ⟨g1, 0, none⟩) ∧ Box W g1 47 #[.int .i64 1, .slice (some ⟨gk, 0, none⟩) 1 1] ∧ Box W gk 44 #[.int .i64 1, .slice kA b.length kc] ∧ Old w W) rfl ⟨rfl, hB1, hK1, hD⟩
    (fun j f W hj hi hI => by
      obtain ⟨f1, i1, i2, i3⟩ := hI
      exact w_reg (wl_v (mI hi) <| wl_v (ex_fld fld47_1 f1) <| wl_v (ex_load1 Try.underlying45 rfl (i1.cell rfl)) <| wl_v (ex_len Try.underlying45 rfl) <| wl_v (ex_lss rfl rfl) <| wl_nil (reg_end ⟨rfl, hi, f1, i1, i2, i3⟩)))
    (fun j f w hj hi hI => w_reg (wl_v (mI hi) <| wl_v (ex_add64 rfl rfl (by omega) (by omega)) <| wl_v (aI rfl) <| wl_nil (reg_end ⟨rfl, hI⟩))) ?_ ?_
  · rintro j f W hj f3 ⟨f1, i1, i2, i3⟩
    obtain rfl : j = 0 := by omega
    obtain ⟨f, rfl⟩ := xp2 f3 f1
    refine w_sreg (wl_v (ex_fld fld47_1 rfl) <| wl_v (ex_load1 Try.underlying45 rfl (i1.cell rfl)) <| wl_v (mI rfl) <| wl_v (ex_idxN (j := 0) Try.underlying45 inf44 rfl rfl rfl (by decide)) <| wl_v (ex_ldA Try.underlying44 rfl inf44 rfl i2 rfl) <| ?_)
    refine wl_new inf44 rfl rfl rfl rfl rfl fun W2 hB4 hO2 => wl_end ?_
    generalize W.heap.size = g4 at *
    have i1' := i1.old hO2
    have i2' := i2.old hO2
    refine w_seq ?_
    refine w_sreg (wl_v (ex_fld fld44_1 rfl) <| wl_v (ex_load1 Try.underlying23 rfl (hB4.cell rfl)) <| wl_v (ex_len Try.underlying23 rfl) <| wl_v (ex_eq (ex_neq rfl rfl) (bool_nf (by omega))) <| wl_v (mB rfl) <| wl_gy rfl rfl <| wl_v (ex_fld fld44_0 rfl) <| wl_gy rfl rfl <| wl_v (ex_load1 Try.underlying3 rfl (hB4.cell rfl)) <| wl_gy rfl rfl <| wl_v (ex_eq (ex_lss rfl rfl) (bool_f (by decide))) <| wl_v (ex_pick_f rfl rfl) <| wl_v (mB rfl) <| wl_gy rfl rfl <| wl_v (ex_fld fld44_0 rfl) <| wl_gy rfl rfl <| wl_v (ex_load1 Try.underlying3 rfl (hB4.cell rfl)) <| wl_gy rfl rfl <| wl_v (ex_eq (ex_gtr rfl rfl) (bool_f (by decide))) <| wl_v (ex_pick_f rfl rfl) <| wl_end ?_)
    refine w_if_f rfl (w_skip (then_k ?_))
    refine w_sdraw (fun V => Old W2 V) [(0, true), (1, true), (2, true), (3, true), (4, true), (5, true), (6, true), (7, true), (8, true), (9, true), (10, true), (11, true), (12, true), (13, true), (14, true)] mixed (by decide +kernel) (Old.refl W2).drew ?_
    refine wd_f rfl rfl (fun W hS => mI rfl) <| wd_f rfl rfl (fun W hS => ex_eq (ex_gtr rfl rfl) (bool_f (by decide))) <| wd_f rfl rfl (fun W hS => mB rfl) <| wd_fgn rfl rfl rfl rfl rfl <| wd_fgn rfl rfl rfl rfl rfl <| wd_fgn rfl rfl rfl rfl rfl <| wd_fgn rfl rfl rfl rfl rfl <| wd_fgn rfl rfl rfl rfl rfl <| wd_fgn rfl rfl rfl rfl rfl <| wd_fgn rfl rfl rfl rfl rfl <| wd_fgn rfl rfl rfl rfl rfl <| wd_fgn rfl rfl rfl rfl rfl <| wd_fgn rfl rfl rfl rfl rfl <| wd_fgn rfl rfl rfl rfl rfl <| wd_f rfl rfl (fun W hS => ex_pick_f rfl rfl) <| wd_nil ?_
    have hOd := hO2.trans (Old.refl W2).drew
    exact w_if_f rfl (w_skip (body_end ⟨rfl, rfl, i1.old hOd, i2.old hOd, i3.trans hOd⟩))
  · rintro f W f3 ⟨f1, i1, i2, i3⟩
    refine then_k ?_
    refine w_sreg (wl_v (aB rfl) <| wl_end ?_)
    exact w_ret (end1 rfl ⟨_, rfl, rfl, i3⟩)

def tokName : ByteArray := ⟨#[116, 111, 107, 101, 110]⟩
theorem R10_Tag (key : List UInt8) (t : Tok) (ht : t.small) (v : Value) (w : World) (hv : IsB w v key) (hk : key.length ≤ 1099511627776) :
    Calls Try.prog 35 #[v, t.v] w fun e w' => ∃ x, e = .returned x ∧ OwnB w.heap.size w' x (deriveV key tokName.data.toList t.bytes) ∧ Old w w' := by
  refine enter (l := [_, _]) 9 Try.func35 rfl rfl (by simp) ?_
  have hD : Old w (w.alloc (.cells t.cs 27)) := (Old.refl w).alloc _
  have hB := Box.new w 27 t.cs
  refine w_sreg (wl_v (ex_box (v := t.v) (cs := t.cs) rfl rfl) <| wl_v (aS rfl) <| wl_end ?_)
  generalize w.alloc (.cells t.cs 27) = w1 at *
  generalize hg : w.heap.size = g1 at hB
  have htl := Tok.bytes_len ht
  refine w_sreg (wl_v (mV (v := v) rfl) <| wl_v (ex_ldA Try.underlying27 rfl inf27 rfl hB rfl) <| wl_c (ec_fn en13) (R10_Fields t ht w1) ?_)
  rintro v2 w2 ⟨HO2, hO2⟩
  have hO := hD.trans hO2
  refine wl_c (ec_fn en51) (R8_Derive key t.bytes tokName v v2 w2 (hv.old hO) HO2.isB hk (by decide) (by omega)) ?_
  rintro v3 w3 ⟨HO3, hO3⟩
  refine wl_v (aV (v := v3) rfl) <| wl_end ?_
  exact w_ret (end1 rfl ⟨_, rfl, HO3.base (by have := hO.size; omega), hO.trans hO3⟩)

/-- What Issue makes of a token, under the one key of epoch 1. -/
theorem R10_Issue1 (gk : Nat) (kb : Value) (b : List UInt8) (t : Tok) (ht : t.small) (w : World) (hK : Box w gk 44 #[.int .i64 1, kb]) (hb : IsB w kb b) (hl : b.length = 32) (hmay : ({ t with f := 1 } : Tok).may) :
    Calls Try.prog 15 #[.agg #[.int .i64 1, .slice (some ⟨gk, 0, none⟩) 1 1], t.v] w fun e w' => ∃ x, e = .returned x ∧ ∃ u tag, x = .tuple #[u, .int .i64 0] ∧ tag.length = 32 ∧ IsB w' u (putF 2 (({ t with f := 1 } : Tok).bytes ++ (putv tag.length ++ tag))) ∧ Old w w' := by
  refine enter (l := [_, _]) 33 Try.func15 rfl rfl (by simp) ?_
  have hD : Old w (w.alloc (.cells #[.int .i64 1, .slice (some ⟨gk, 0, none⟩) 1 1] 47)) := (Old.refl w).alloc _
  have hB1 := Box.new w 47 #[.int .i64 1, .slice (some ⟨gk, 0, none⟩) 1 1]
  refine w_sreg (wl_v (ex_box (v := .agg #[.int .i64 1, .slice (some ⟨gk, 0, none⟩) 1 1]) (cs := #[.int .i64 1, .slice (some ⟨gk, 0, none⟩) 1 1]) rfl rfl) <| ?_)
  have hlt1 := hB1.lt
  generalize w.alloc (.cells #[.int .i64 1, .slice (some ⟨gk, 0, none⟩) 1 1] 47) = w1 at *
  generalize hg1 : w.heap.size = g1 at *
  have hD2 : Old w1 (w1.alloc (.cells t.cs 27)) := (Old.refl w1).alloc _
  have hB2 := Box.new w1 27 t.cs
  refine wl_v (ex_box (v := t.v) (cs := t.cs) rfl rfl) <| wl_v (aS rfl) <| wl_v (aI rfl) <| wl_end ?_
  have hA2 := hD.trans hD2
  have hB12 := hB1.old hD2
  have hK2 := hK.old hA2
  have hb2 := hb.old hA2
  generalize w1.alloc (.cells t.cs 27) = w2 at *
  generalize hg2 : w1.heap.size = g2 at *
  refine w_seq ?_
  refine w_sreg (wl_v (ex_ldA Try.underlying47 rfl inf47 rfl hB12 rfl) <| wl_c (ec_fn en34) (R9_Right1 gk kb b w2 hK2 hb2 hl) ?_)
  rintro _ w3 ⟨rfl, hO3⟩
  refine wl_v (ex_not rfl) <| wl_end ?_
  refine w_if_f rfl (w_skip (then_k ?_))
  obtain ⟨kA, kc, rfl⟩ := hb.lay
  have hA3 := hA2.trans hO3
  have hB13 := hB12.old hO3
  have hB23 := hB2.old hO3
  have hK3 := hK2.old hO3
  have hb3 := hb2.old hO3
  refine w_sreg (wl_v (ex_fld fld47_1 rfl) <| wl_v (ex_load1 Try.underlying45 rfl (hB13.cell rfl)) <| wl_v (ex_fld fld47_1 rfl) <| wl_v (ex_load1 Try.underlying45 rfl (hB13.cell rfl)) <| wl_v (ex_len Try.underlying45 rfl) <| wl_v (ex_eq (ex_sub64 rfl rfl (by decide) (by decide)) (v' := .int .i64 ((0 : Nat) : Int)) rfl) <| wl_v (ex_idxN (j := 0) Try.underlying45 inf44 rfl rfl rfl (by decide)) <| wl_v (ex_ldA Try.underlying44 rfl inf44 rfl hK3 rfl) <| ?_)
  refine wl_new inf44 rfl rfl rfl rfl rfl fun w4 hB4 hO4 => wl_end ?_
  have hA4 := hA3.trans hO4
  have hB24 := hB23.old hO4
  have hlt4 := hB23.lt
  generalize hg4 : w3.heap.size = g4 at *
  refine w_sreg (wl_v (ex_fld fld44_0 rfl) <| wl_v (ex_load1 Try.underlying3 rfl (hB4.cell rfl)) <| wl_v (ex_fld fld27_5 rfl) <| wl_st inf3 rfl rfl rfl hB24 (by simp [Tok.cs]) fun w5 hB25 hU5 => wl_end ?_)
  have hA5 := hU5.old hA4 (by omega)
  have hB45 := hB4.upd hU5 (by omega)
  have hb5 := (hb3.old hO4).upd hB24 rfl hU5
  have hcs : t.cs.setIfInBounds 5 (.int .i64 1) = ({ t with f := 1 } : Tok).cs := rfl
  have hB25' : Box w5 g2 27 ({ t with f := 1 } : Tok).cs := hB25
  clear hB25
  have ht1 : ({ t with f := 1 } : Tok).small := by
    obtain ⟨a1, a2, a3, a4, a5, a6⟩ := ht
    exact ⟨a1, a2, a3, a4, a5, show 1 < 9223372036854775808 by decide⟩
  generalize ({ t with f := 1 } : Tok) = t1 at *
  refine w_seq ?_
  refine w_sreg (wl_v (ex_ldA Try.underlying27 rfl inf27 rfl hB25' rfl) <| wl_c (ec_fn en21) (R10_May t1 w5) ?_)
  rintro _ w6 ⟨rfl, hO6⟩
  refine wl_v (ex_eq (ex_not rfl) (congrArg (fun b => Value.bool (!b)) (decide_eq_true hmay))) <| wl_end ?_
  refine w_if_f rfl (w_skip (then_k ?_))
  have hA6 := hA5.trans hO6
  have hB26 := hB25'.old hO6
  have hB46 := hB45.old hO6
  have hb6 := hb5.old hO6
  have htl := Tok.bytes_len ht1
  refine w_sdrawT (fun V => Old w6 V) [(0, true), (2, true), (3, true), (4, true), (1, false), (5, false), (6, false)] [7, 8, 9, 10] mixed (by decide +kernel) (Old.refl w6).drew ?_
  refine wd_f rfl rfl (fun W hS => ex_ldA Try.underlying27 rfl inf27 rfl (hB26.old hS) rfl) <| wd_f rfl rfl (fun W hS => ex_fld fld44_1 rfl) <| wd_f rfl rfl (fun W hS => ex_load1 Try.underlying23 rfl ((hB46.old hS).cell rfl)) <| wd_f rfl rfl (fun W hS => ex_ldA Try.underlying27 rfl inf27 rfl (hB26.old hS) rfl) <| wd_c rfl rfl (ec_fn en13) (R10_Fields t1 ht1 _) ?_
  rintro v7 w7 ⟨HO7, hO7⟩
  refine ⟨(Old.refl w6).drew.trans hO7, ?_⟩
  refine wd_c rfl rfl (ec_fn en35) (R10_Tag b t1 ht1 _ w7 (hb6.old ((Old.refl w6).drew.trans hO7)) (by omega)) ?_
  rintro v8 w8 ⟨HO8, hO8⟩
  refine ⟨((Old.refl w6).drew.trans hO7).trans hO8, ?_⟩
  refine wd_c rfl rfl (ec_fn en14) (R3_Bytes (deriveV b tokName.data.toList t1.bytes) v8 w8 HO8.isB (by rw [show (deriveV b tokName.data.toList t1.bytes).length = 32 from tagV_len _ _]; decide)) ?_
  rintro v9 w9 ⟨HO9, hO9⟩
  refine ⟨(((Old.refl w6).drew.trans hO7).trans hO8).trans hO9, ?_⟩
  refine wd_nil <| ?_
  have htg : (deriveV b tokName.data.toList t1.bytes).length = 32 := tagV_len _ _
  generalize deriveV b tokName.data.toList t1.bytes = tag at *
  have hO79 := hO8.trans hO9
  have hpl := putv_len10 (n := tag.length) (by omega)
  have HO79 := HO7.old hO79
  have hA9 := hA6.trans ((Old.refl w6).drew.trans (hO7.trans hO79))
  have hl9 : (t1.bytes ++ (putv tag.length ++ tag)).length ≤ 102 := by simp only [List.length_append]; omega
  refine wt_appV rfl rfl HO79 rfl HO9.isB (by simp only [List.length_append] at hl9 ⊢; omega) ((hO7.trans hO79).size) fun v10 w10 HO10 hg10 _ => ?_
  have hA10 : Old w w10 := hA9.grown hg10 fun k hk => by
    have h1 := HO7.ge k hk
    have h2 := (hA6.trans (Old.refl w6).drew).size
    omega
  refine wt_c rfl rfl (ec_fn en12) (R4_Put 2 _ v10 w10 HO10.isB (by omega)) ?_
  rintro v11 w11 ⟨HO11, hO11⟩
  refine wt_v rfl rfl (aV (v := v11) rfl) <| wt_v rfl rfl (aI rfl) <| wt_nil ?_
  exact w_ret (end2 rfl ⟨_, rfl, v11, tag, rfl, htg, HO11.isB, hA10.trans hO11⟩)
end Go.Proofs.Ytcceeigkgklkoaa
