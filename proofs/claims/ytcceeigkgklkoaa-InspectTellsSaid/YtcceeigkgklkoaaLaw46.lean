/- inspect.Splice; viaticumlaw46.InspectTells. -/
import Derived.Test.YtcceeigkgklkoaaAwake
set_option linter.unusedSimpArgs false
set_option linter.unusedVariables false
namespace Go.Proofs.Ytcceeigkgklkoaa
open Go.RowKit

def spliceV (a b : List UInt8) : List UInt8 × Nat :=
  if (openV a).2.2 ≠ 0 then ([], (openV a).2.2) else if (openV b).2.2 ≠ 0 then ([], (openV b).2.2)
  else (putF 2 ((openV a).1.bytes ++ (putv (openV b).2.1.length ++ (openV b).2.1)), 0)
theorem inspect_Splice (a b : List UInt8) (v u : Value) (w : World) (ha : IsB w v a) (hb : IsB w u b) :
    Calls Try.prog 11 #[v, u] w fun e w' => ∃ x, e = .returned x ∧ ∃ s, x = .tuple #[s, .int .i64 ((spliceV a b).2 : Int)] ∧ IsB w' s (spliceV a b).1 ∧ Old w w' := by
  refine enter (l := [_, _]) 43 Try.func11 rfl rfl (by simp) ?_
  refine w_sreg (wl_v (aS rfl) <| wl_v (aI rfl) <| wl_end ?_)
  have hS : spliceV a b = if (openV a).2.2 ≠ 0 then ([], (openV a).2.2) else if (openV b).2.2 ≠ 0 then ([], (openV b).2.2)
    else (putF 2 ((openV a).1.bytes ++ (putv (openV b).2.1.length ++ (openV b).2.1)), 0) := rfl
  have hma := @openV_may a
  have hmb := @openV_may b
  refine w_sreg (wl_v (mV (v := v) rfl) <| wl_c (ec_fn en24) (token_Open a v w ha) ?_)
  rintro _ w1 ⟨tv, rfl, htv, hO1⟩
  generalize (openV a).1 = t at *
  generalize (openV a).2.1 = tag at *
  generalize (openV a).2.2 = er at *
  refine wl_v (mT rfl) <| wl_v (ex_extract rfl rfl) <| wl_v (ex_extract rfl rfl) <| wl_v (ex_extract rfl rfl) <| wl_new (cs := t.cs) inf27 rfl rfl rfl rfl rfl fun w2 hB2 hO2 => wl_v (aV (v := tv) rfl) <| wl_v (aI rfl) <| wl_end ?_
  have hA2 := hO1.trans hO2
  generalize w1.heap.size = g2 at *
  refine w_seq ?_
  refine w_sreg (wl_v (mI rfl) <| wl_v (ex_neq rfl rfl) <| wl_end ?_)
  refine w_ifn rfl (fun h1 => ?_) (fun h1 => ?_)
  · rw [if_pos (by omega)] at hS
    refine w_sreg (wl_v (mI rfl) <| wl_v (aS rfl) <| wl_v (aI rfl) <| wl_end ?_)
    exact w_ret (ret_then (end2 rfl ⟨_, rfl, _, by rw [hS]; rfl, by rw [hS]; exact IsB.nil _, hA2⟩))
  refine w_skip (then_k ?_)
  rw [if_neg (by omega)] at hS
  obtain ⟨hta, htl⟩ := hma (by omega)
  refine w_sreg (wl_v (mV (v := u) rfl) <| wl_c (ec_fn en24) (token_Open b u w2 (hb.old hA2)) ?_)
  rintro _ w3 ⟨gv, rfl, hgv, hO3⟩
  generalize (openV b).1 = t2 at *
  generalize (openV b).2.1 = tag2 at *
  generalize (openV b).2.2 = er2 at *
  refine wl_v (mT rfl) <| wl_v (ex_extract rfl rfl) <| wl_v (ex_extract rfl rfl) <| wl_v (ex_extract rfl rfl) <| wl_new (cs := t2.cs) inf27 rfl rfl rfl rfl rfl fun w4 hB4 hO4 => wl_v (aV (v := gv) rfl) <| wl_v (aI rfl) <| wl_end ?_
  have hO24 := hO3.trans hO4
  have hA4 := hA2.trans hO24
  have hB24 := hB2.old hO24
  have hgv4 := hgv.old hO4
  refine w_seq ?_
  refine w_sreg (wl_v (mI rfl) <| wl_v (ex_neq rfl rfl) <| wl_end ?_)
  refine w_ifn rfl (fun h2 => ?_) (fun h2 => ?_)
  · rw [if_pos (by omega)] at hS
    refine w_sreg (wl_v (mI rfl) <| wl_v (aS rfl) <| wl_v (aI rfl) <| wl_end ?_)
    exact w_ret (ret_then (end2 rfl ⟨_, rfl, _, by rw [hS]; rfl, by rw [hS]; exact IsB.nil _, hA4⟩))
  refine w_skip (then_k ?_)
  rw [if_neg (by omega)] at hS
  obtain ⟨htb, htl2⟩ := hmb (by omega)
  have hD5 : Old w4 (w4.alloc (.cells #[.slice none 0 0] 66)) := (Old.refl w4).alloc _
  have hB5 := Box.new w4 66 #[.slice none 0 0]
  refine w_sreg (wl_v (ex_build #[.slice none 0 0] (by kernel_rfl)) <| wl_v (ex_box (v := .agg #[.slice none 0 0]) (cs := #[.slice none 0 0]) rfl rfl) <| wl_v (aP rfl) <| wl_end ?_)
  have hgl := (hgv4.ls).old hD5
  have hB25 := hB24.old hD5
  have hA5 := hA4.trans hD5
  have hlt2 := hB24.lt
  have hs4 := hA4.size
  generalize w4.alloc (.cells #[.slice none 0 0] 66) = w5 at *
  generalize w4.heap.size = g5 at *
  refine w_sreg (wl_v (mP rfl) <| wl_v (mV (v := gv) rfl) <| wl_c (ec_fn en26) (field_wBytes g5 [] tag2 gv w5 ⟨_, hB5, OwnB.nil _ _⟩ (fun w1 hb => (hgl.kept (Kp.of_below hb fun _ _ h => h)).isB) (by simp only [List.length_nil]; omega)) ?_)
  rintro _ w6 ⟨hw6, hb6⟩
  refine wl_end ?_
  have hA6 := hA5.of_below hb6 hs4
  have hB26 : Box w6 g2 27 t.cs := Kp.box (K := fun k _ => k < g5) (Kp.of_below hb6 fun _ _ h => h) hB25 hlt2
  refine w_sreg (wl_v (ex_ldA Try.underlying27 rfl inf27 rfl hB26 rfl) <| wl_c (ec_fn en28) (token_Fields t hta.small w6) ?_)
  rintro v7 w7 ⟨HO7, hO7⟩
  have hw7 := hw6.old hO7
  have htbl := Tok.bytes_len hta.small
  have hpl := putv_len10 (n := tag2.length) (by omega)
  rw [List.nil_append] at hw7
  have hl7 : (putv tag2.length ++ tag2).length ≤ 42 := by rw [List.length_append]; omega
  have hl8 : (t.bytes ++ (putv tag2.length ++ tag2)).length ≤ 102 := by rw [List.length_append]; omega
  refine wl_v (mP rfl) <| wl_c (ec_fn en29) (field_Out g5 _ w7 hw7 (by omega)) ?_
  rintro v8 w8 ⟨HO8, hO8⟩
  have hA8 := (hA6.trans hO7).trans hO8
  refine wl_appV rfl (HO7.old hO8) rfl HO8.isB (by rw [List.length_append] at hl8; omega) (hO7.trans hO8).size fun v9 w9 HO9 hg9 _ => ?_
  have hA9 : Old w w9 := hA8.grown hg9 fun k hk => by have := HO7.ge k hk; have := hA6.size; omega
  refine wl_c (ec_fn en27) (frame_Put 2 _ v9 w9 HO9.isB) ?_
  rintro _ w10 ⟨u10, rfl, HO10, hO10⟩
  rw [if_pos (by omega)] at HO10
  refine wl_v (ex_extract rfl rfl) <| wl_v (ex_extract rfl rfl) <| wl_v (aV (v := u10) rfl) <| wl_v (ex_eq (aI rfl) (congrArg (Value.int .i64) (if_pos (by omega)))) <| wl_end ?_
  exact w_ret (end2 rfl ⟨_, rfl, u10, by rw [hS]; rfl, by rw [hS]; exact HO10.isB, hA9.trans hO10⟩)

/-! ### The law -/
def hdV (er : Nat) (tag : List UInt8) (o : List (Tok × List UInt8 × List UInt8)) : Bool := decide (er = 0) && o.any fun p => decide (p.2.1 = tag)
def hnV (er : Nat) (tag : List UInt8) (t : Tok) (o : List (Tok × List UInt8 × List UInt8)) : Bool := decide (er = 0) && o.any fun p => decide (p.2.1 = tag) && decide (t = p.1)
theorem hd_app (er : Nat) (tag : List UInt8) (o : List (Tok × List UInt8 × List UInt8)) (p : Tok × List UInt8 × List UInt8) : hdV er tag (o ++ [p]) = (hdV er tag o || (decide (er = 0) && decide (p.2.1 = tag))) := by
  unfold hdV
  rw [List.any_append]
  cases decide (er = 0) <;> simp
theorem hn_app (er : Nat) (tag : List UInt8) (t : Tok) (o : List (Tok × List UInt8 × List UInt8)) (p : Tok × List UInt8 × List UInt8) : hnV er tag t (o ++ [p]) = (hnV er tag t o || (decide (er = 0) && (decide (p.2.1 = tag) && decide (t = p.1)))) := by
  unfold hnV
  rw [List.any_append]
  cases decide (er = 0) <;> simp
theorem sl_noU8 {α : Type} {L : Lay α} {K : Nat → Obj → Prop} {w : World} : ∀ {css : List (List Value)} {l : List (List α)}, Els (laySl L) K w css l → ∀ u ∈ css.flatten, noU8v u = true
  | [], [], _, u, hu => by simp at hu
  | cs :: css, x :: l, h, u, hu => by
    obtain ⟨⟨v, rfl, hv⟩, h2⟩ := h
    rw [List.flatten_cons, List.mem_append] at hu
    rcases hu with hu | hu
    · rw [List.mem_singleton] at hu; subst hu; obtain ⟨A, c, css, rfl, _⟩ := hv; rfl
    · exact sl_noU8 h2 u hu
theorem opened_text {l : List Rpy} {p : Tok × List UInt8 × List UInt8} (h : p ∈ opened l) : ∃ r ∈ l, p.2.2 = r.text := by
  unfold opened at h
  obtain ⟨r, hr, hp⟩ := List.mem_filterMap.1 h
  refine ⟨r, hr, ?_⟩
  unfold openR1 at hp
  split at hp
  · injection hp with hp; rw [← hp]
  · cases hp
set_option maxHeartbeats 4000000 in
set_option maxRecDepth 100000 in
theorem law46 (l : List Rpy) (a b : List UInt8) (vl va vb : Value) (w : World) (K : Nat → Obj → Prop) (hl : Ls layRpy K w vl l) (ha : IsB w va a) (hb : IsB w vb b) :
    Calls Try.prog 3 #[vl, va, vb] w fun e w' => ∃ x, e = .returned x ∧ x = .bool true ∧ Old w w' := by
  refine enter (l := [_, _, _]) 163 Try.func3 rfl rfl (by simp) ?_
  refine w_sreg (wl_v (aB rfl) <| wl_end ?_)
  refine w_seq ?_
  refine w_sreg (wl_c (ec_fn en4) (L46_awake w) ?_)
  rintro _ w1 ⟨rfl, hO1⟩
  refine wl_v (ex_not rfl) <| wl_end ?_
  refine w_if_f rfl (w_skip (then_k ?_))
  have ha1 := ha.old hO1
  have hb1 := hb.old hO1
  obtain ⟨aA, ac, rfl⟩ := ha.lay
  obtain ⟨bA, bc, rfl⟩ := hb.lay
  refine w_seq ?_
  have hD2 : Old w1 (w1.alloc (.cells #[.slice aA a.length ac, .slice bA b.length bc] 23)) := (Old.refl w1).alloc _
  have hls : Ls (laySl layB) KT (w1.alloc (.cells #[.slice aA a.length ac, .slice bA b.length bc] 23)) (.slice (some ⟨w1.heap.size, 0, none⟩) 2 2) [a, b] :=
    Ls.new (L := laySl layB) (css := [[.slice aA a.length ac], [.slice bA b.length bc]]) (l := [a, b]) ⟨⟨_, rfl, ha1.ls.mono fun _ _ _ => trivial⟩, ⟨_, rfl, hb1.ls.mono fun _ _ _ => trivial⟩, trivial⟩ (by simp) trivial
  refine w_sreg (wl_v (mV (v := vl) rfl) <| wl_v (mS rfl) <| wl_v (mS rfl) <| wl_v (ex_buildN Try.underlying30 inf23 [.slice aA a.length ac, .slice bA b.length bc] rfl (by simp [Value.cells]) rfl (by decide) (by decide)) <| ?_)
  have hA2 := hO1.trans hD2
  generalize w1.alloc (.cells #[.slice aA a.length ac, .slice bA b.length bc] 23) = w2 at *
  generalize w1.heap.size = g1 at *
  obtain ⟨s, hs⟩ : ∃ s : Bool, s = true ↔ smallV l [a, b] := by
    by_cases h : smallV l [a, b]
    · exact ⟨true, by simp [h]⟩
    · exact ⟨false, by simp [h]⟩
  refine wl_c (ec_fn en5) (L46_small l [a, b] vl _ w2 KT ((hl.old hA2).mono fun _ _ _ => trivial) hls s hs) ?_
  rintro _ w3 ⟨rfl, hO3⟩
  have hA3 := hA2.trans hO3
  refine wl_v (ex_not rfl) <| wl_end ?_
  cases s with
  | false =>
    refine w_if_t rfl ?_
    refine w_sreg (wl_v (aB rfl) <| wl_end ?_)
    exact w_ret (ret_then (end1 rfl ⟨_, rfl, rfl, hA3⟩))
  | true =>
  obtain ⟨hsm1, hsm2, hsm3⟩ := hs.1 rfl
  have hal : a.length ≤ 500 := hsm2 a (by simp)
  have hbl : b.length ≤ 500 := hsm2 b (by simp)
  refine w_if_f rfl (w_skip (then_k ?_))
  have ha3 := ha.old hA3
  refine w_sreg (wl_v (mS rfl) <| wl_c (ec_fn en6) (R10_Open a _ w3 ha3) ?_)
  rintro _ w4 ⟨tv, rfl, htv, hO4⟩
  have hma := @openV_may a
  have hSp : spliceV a b = if (openV a).2.2 ≠ 0 then ([], (openV a).2.2) else if (openV b).2.2 ≠ 0 then ([], (openV b).2.2)
    else (putF 2 ((openV a).1.bytes ++ (putv (openV b).2.1.length ++ (openV b).2.1)), 0) := rfl
  have hH1 : heardV l a ↔ (openV a).2.2 = 0 ∧ ∃ p ∈ opened l, p.2.1 = (openV a).2.1 := Iff.rfl
  have hH2 : honestV l a ↔ (openV a).2.2 = 0 ∧ ∃ p ∈ opened l, p.2.1 = (openV a).2.1 ∧ p.1 = (openV a).1 := Iff.rfl
  generalize (openV a).1 = t at *
  generalize (openV a).2.1 = tag at *
  generalize (openV a).2.2 = er at *
  obtain ⟨tA, tc, rfl⟩ := htv.lay
  refine wl_v (mT rfl) <| wl_v (ex_extract rfl rfl) <| wl_v (ex_extract rfl rfl) <| wl_v (ex_extract rfl rfl) <| wl_new (cs := t.cs) inf27 rfl rfl rfl rfl rfl fun w5 hB5 hO5 => wl_v (aS rfl) <| wl_v (aI rfl) <| wl_end ?_
  have hA5 := (hA3.trans hO4).trans hO5
  have htv5 := htv.old hO5
  generalize w4.heap.size = g7 at *
  refine w_sreg (wl_v (aS rfl) <| wl_end ?_)
  refine w_sreg (wl_v (aB rfl) <| wl_v (aB rfl) <| wl_end ?_)
  have hl5 := (hl.old hA5).here
  refine w_seq ?_
  refine w_sreg (wl_v (mV (v := vl) rfl) <| wl_v (ex_lenL Try.underlying22 rfl hl5) <| wl_v (mI rfl) <| wl_end ?_)
  refine w_forR 41 l.length (fun j f W => ∃ wv, f 0 = vl ∧ f 1 = .slice aA a.length ac ∧ f 2 = .slice bA b.length bc ∧ f 7 = .pointer (some ⟨g7, 0, none⟩) ∧ f 8 = .slice tA tag.length tc ∧ f 9 = .int .i64 (er : Int) ∧ f 10 = wv ∧ f 11 = .bool (hdV er tag (opened (l.take j))) ∧ f 12 = .bool (hnV er tag t (opened (l.take j))) ∧ f 39 = vl ∧ f 40 = .int .i64 (l.length : Int) ∧
      OwnL (laySl layB) 23 (fun k _ => k < w5.heap.size) w5.heap.size W wv (texts (opened (l.take j))) ∧ Cln W wv ∧ Old w5 W) rfl
    ⟨_, rfl, rfl, rfl, rfl, rfl, rfl, rfl, by simp [hdV, opened]; rfl, by simp [hnV, opened]; rfl, rfl, rfl, OwnL.nil, Cln.nil _, Old.refl _⟩
    (fun j f W hj hi hI => by
      obtain ⟨wv, f0, f1, f2, f7, f8, f9, f10, f11, f12, f39, f40, h1, h2, h3⟩ := hI
      exact w_reg (wl_v (ex_lss hi f40) <| wl_nil (reg_end ⟨rfl, hi, wv, f0, f1, f2, f7, f8, f9, f10, f11, f12, f39, f40, h1, h2, h3⟩)))
    (fun j f W hj hi hI => w_reg (wl_v (ex_add64 hi rfl (by omega) (by omega)) <| wl_v (mI rfl) <| wl_nil (reg_end ⟨rfl, hI⟩))) ?_ ?_
  · rintro j f W hj f41 ⟨wv, f0, f1, f2, f7, f8, f9, f10, f11, f12, f39, f40, HW, HC, hO⟩
    obtain ⟨f, rfl⟩ := xp12 f41 f0 f1 f2 f7 f8 f9 f10 f11 f12 f39 f40
    have hlW := hl5.old hO
    have hBW := hB5.old hO
    have htvW := htv5.old hO
    obtain ⟨cs, ⟨rv, rfl, hrv⟩, hcell⟩ := hlW.at_ hj
    have hnx := opened_next hj
    have hrs := hsm1 l[j] (List.getElem_mem hj)
    have hol : (opened (l.take j)).length ≤ 40 := Nat.le_trans (List.length_filterMap_le _ _) (by rw [List.length_take]; omega)
    refine w_sreg (wl_v (ex_idxL Try.underlying22 inf33 rfl hlW rfl (by decide) rfl rfl hj) <| wl_v (ex_ldN Try.underlying33 rfl inf33 rfl (fun j u hu => by rw [add_of_add]; exact hcell j u hu) rfl (by decide)) <|
      wl_new inf33 rfl rfl rfl (one4 hrv.one) rfl fun W2 hB2 hO2 => wl_end ?_)
    generalize W.heap.size = g2 at *
    refine w_sreg (wl_v (ex_fld fld33_3 rfl) <| wl_v (ex_load1 Try.underlying23 rfl (hB2.cell rfl)) <| wl_c (ec_fn en6) (R10_Open _ rv W2 (hrv.old hO2).isB) ?_)
    rintro _ W3 ⟨ov, rfl, hov, hO3⟩
    have ho : openR1 l[j] = if (openV l[j].text).2.2 = 0 then some ((openV l[j].text).1, (openV l[j].text).2.1, l[j].text) else none := rfl
    generalize (openV l[j].text).1 = t2 at *
    generalize (openV l[j].text).2.1 = own at *
    generalize (openV l[j].text).2.2 = fr at *
    refine wl_v (mT rfl) <| wl_v (ex_extract rfl rfl) <| wl_v (ex_extract rfl rfl) <| wl_v (ex_extract rfl rfl) <| wl_new (cs := t2.cs) inf27 rfl rfl rfl rfl rfl fun W4 hB4 hO4 => wl_v (aV (v := ov) rfl) <| wl_v (aI rfl) <| wl_end ?_
    generalize W3.heap.size = g4 at *
    have hO24 := hO3.trans hO4
    have hOW := hO2.trans hO24
    have hO' := hO.trans hOW
    have hB24 := hB2.old hO24
    have hrv4 := hrv.old hOW
    have hov4 := hov.old hO4
    have HW4 := HW.old hOW
    have HC4 := HC.old hOW
    refine w_seq ?_
    refine w_sreg (wl_v (mI rfl) <| wl_v (ex_neq rfl rfl) <| wl_end ?_)
    refine w_ifn rfl (fun h1 => ?_) (fun h1 => ?_)
    · rw [if_neg (by omega)] at ho
      rw [ho] at hnx
      simp only [Option.toList_none, List.append_nil] at hnx
      refine w_exit (exit_then (body_cont ⟨rfl, wv, rfl, rfl, rfl, rfl, rfl, rfl, rfl, ?_, ?_, rfl, rfl, ?_, HC4, hO'⟩))
      · rw [hnx]; rfl
      · rw [hnx]; rfl
      · rw [hnx]; exact HW4
    refine w_skip (then_k ?_)
    rw [if_pos (by omega)] at ho
    rw [ho] at hnx
    simp only [Option.toList_some] at hnx
    have htx : texts (opened (l.take (j + 1))) = texts (opened (l.take j)) ++ [l[j].text] := by rw [hnx]; unfold texts; simp
    have hD5 : Old W4 (W4.alloc (.cells #[rv] 23)) := (Old.refl W4).alloc _
    have hLs := LsE.new1s (e := 23) hrv4
    refine w_sreg (wl_v (mV (v := wv) rfl) <| wl_v (ex_fld fld33_3 rfl) <| wl_v (ex_load1 Try.underlying23 rfl (hB24.cell rfl)) <| wl_v (ex_box1 (v := rv) Try.underlying30 inf23 rfl hrv.one) <| ?_)
    have HW5 := HW4.old hD5
    have HC5 := HC4.old hD5
    have hO5' := hO'.trans hD5
    have hov5 := hov4.old hD5
    have hB45 := hB4.old hD5
    have hBW5 := (hBW.old hOW).old hD5
    have htvW5 := (htvW.old hOW).old hD5
    generalize W4.alloc (.cells #[rv] 23) = W5 at *
    have htl : (texts (opened (l.take j))).length ≤ 40 := by unfold texts; rw [List.length_map]; exact hol
    refine wl_appLC Try.underlying30 inf23 rfl (by omega) rfl rfl HW5 HC5 rfl hLs (by simp only [List.length_cons, List.length_nil]; omega) (by omega) hO5'.size (fun j o hj _ h => by have := HW5.ge j hj; omega) rfl (fun css h => sl_noU8 h) fun wv' W6 HW6 HC6 hg6 _ => wl_v (aV (v := wv') rfl) <| wl_end ?_
    have hk6 : Kp (fun k o => k < w5.heap.size ∨ tagOf o ≠ some 23) W5 W6 := Kp.of_grown hg6 fun k o hk ho hK => by
      obtain ⟨cs, hcs⟩ := HW5.tag k hk
      rw [hcs] at ho; injection ho with ho; subst ho
      rcases hK with h | h
      · have := HW5.ge k hk; omega
      · exact h rfl
    have hO6' := hO5'.grown hg6 HW5.ge
    have hB46 : Box W6 g4 27 t2.cs := hk6.box hB45 (.inr (by simp [tagOf]))
    have hBW6 : Box W6 g7 27 t.cs := hB5.old hO6'
    have hov6 : IsB W6 ov own := hov5.grownC hg6 HC5
    have htv6 := htv5.old hO6'
    rw [← htx] at HW6
    have hd' := hd_app er tag (opened (l.take j)) (t2, own, l[j].text)
    have hn' := hn_app er tag t (opened (l.take j)) (t2, own, l[j].text)
    rw [← hnx] at hd' hn'
    simp only at hd' hn'
    generalize hdE0 : hdV er tag (opened (l.take j)) = hd at *
    generalize hnE0 : hnV er tag t (opened (l.take j)) = hn at *
    by_cases he : er = 0
    · subst he
      cases hd with
      | true =>
        refine w_sreg (wl_v (mB rfl) <| wl_v (mB rfl) <| wl_gn rfl rfl rfl <| wl_gn rfl rfl rfl <| wl_gn rfl rfl rfl <| wl_gu rfl rfl <| wl_gu rfl rfl <| wl_gu rfl rfl <| wl_gn rfl rfl rfl <| wl_v (ex_pick_t rfl rfl) <| wl_v (aB rfl) <| wl_end ?_)
        cases hn with
        | true =>
          exact w_reg (wl_v (mB rfl) <| wl_v (mB rfl) <| wl_gn rfl rfl rfl <| wl_gn rfl rfl rfl <| wl_gn rfl rfl rfl <| wl_gu rfl rfl <| wl_gu rfl rfl <| wl_gu rfl rfl <| wl_gn rfl rfl rfl <| wl_gn rfl rfl rfl <| wl_gu rfl rfl <| wl_gu rfl rfl <| wl_gu rfl rfl <| wl_gn rfl rfl rfl <| wl_v (ex_pick_t rfl rfl) <| wl_v (aB rfl) <| wl_nil (body_end ⟨rfl, wv', rfl, rfl, rfl, rfl, rfl, rfl, rfl, by rw [hd']; rfl, by rw [hn']; rfl, rfl, rfl, HW6.old (Old.refl W6), HC6.old (Old.refl W6), hO6'.trans (Old.refl W6)⟩))
        | false =>
          refine w_reg (wl_v (mB rfl) <| wl_v (mB rfl) <| wl_gy rfl rfl <| wl_v (mI rfl) <| wl_gy rfl rfl <| wl_v (ex_eq (ex_eql rfl rfl) (bool_t rfl)) <| wl_gy rfl rfl <| wl_v (mB rfl) <| wl_gy rfl rfl <| wl_v (mV (v := ov) rfl) <| wl_gy rfl rfl <| wl_v (mS rfl) <| wl_gy rfl rfl <| wl_c (ec_fn en7) (R1_Same own tag ov _ W6 (hov6.old (Old.refl W6)) (htv6.old (Old.refl W6))) ?_)
          rintro _ W8 ⟨rfl, hO8⟩
          have hO68 := Old.trans ((Old.refl W6)) hO8
          refine wl_gy rfl rfl <| wl_v (ex_pick_t rfl rfl) <| wl_gy rfl rfl <| wl_v (mB rfl) <| ?_
          by_cases hq : own = tag
          · exact wl_gy rfl (bool_t hq) <| wl_v (ex_ldA Try.underlying27 rfl inf27 rfl (hBW6.old hO68) rfl) <| wl_gy rfl (bool_t hq) <| wl_v (ex_ldA Try.underlying27 rfl inf27 rfl (hB46.old hO68) rfl) <| wl_gy rfl (bool_t hq) <| wl_v (ex_eqlS (by kernel_rfl) rfl rfl (eqTok t t2 _)) <| wl_gy rfl rfl <| wl_v (ex_pick_t (bool_t hq) rfl) <| wl_v (ex_pick_f rfl rfl) <| wl_v (aB rfl) <| wl_nil (body_end ⟨rfl, wv', rfl, rfl, rfl, rfl, rfl, rfl, rfl, by rw [hd']; rfl, by rw [hn', decide_eq_true hq]; rfl, rfl, rfl, HW6.old hO68, HC6.old hO68, hO6'.trans hO68⟩)
          · exact wl_gn rfl (bool_f hq) rfl <| wl_gn rfl (bool_f hq) rfl <| wl_gn rfl (bool_f hq) rfl <| wl_gy rfl rfl <| wl_v (ex_pick_f (bool_f hq) rfl) <| wl_v (ex_pick_f rfl rfl) <| wl_v (aB rfl) <| wl_nil (body_end ⟨rfl, wv', rfl, rfl, rfl, rfl, rfl, rfl, rfl, by rw [hd']; rfl, by rw [hn', decide_eq_false hq]; rfl, rfl, rfl, HW6.old hO68, HC6.old hO68, hO6'.trans hO68⟩)
      | false =>
        refine w_sreg (wl_v (mB rfl) <| wl_v (mB rfl) <| wl_gy rfl rfl <| wl_v (mI rfl) <| wl_gy rfl rfl <| wl_v (ex_eq (ex_eql rfl rfl) (bool_t rfl)) <| wl_gy rfl rfl <| wl_v (mB rfl) <| wl_gy rfl rfl <| wl_v (mV (v := ov) rfl) <| wl_gy rfl rfl <| wl_v (mS rfl) <| wl_gy rfl rfl <| wl_c (ec_fn en7) (R1_Same own tag ov _ W6 hov6 htv6) ?_)
        rintro _ W7 ⟨rfl, hO7⟩
        refine wl_gy rfl rfl <| wl_v (ex_pick_t rfl rfl) <| wl_v (ex_pick_f rfl rfl) <| wl_v (aB rfl) <| wl_end ?_
        cases hn with
        | true =>
          exact w_reg (wl_v (mB rfl) <| wl_v (mB rfl) <| wl_gn rfl rfl rfl <| wl_gn rfl rfl rfl <| wl_gn rfl rfl rfl <| wl_gu rfl rfl <| wl_gu rfl rfl <| wl_gu rfl rfl <| wl_gn rfl rfl rfl <| wl_gn rfl rfl rfl <| wl_gu rfl rfl <| wl_gu rfl rfl <| wl_gu rfl rfl <| wl_gn rfl rfl rfl <| wl_v (ex_pick_t rfl rfl) <| wl_v (aB rfl) <| wl_nil (body_end ⟨rfl, wv', rfl, rfl, rfl, rfl, rfl, rfl, rfl, by rw [hd']; rfl, by rw [hn']; rfl, rfl, rfl, HW6.old hO7, HC6.old hO7, hO6'.trans hO7⟩))
        | false =>
          refine w_reg (wl_v (mB rfl) <| wl_v (mB rfl) <| wl_gy rfl rfl <| wl_v (mI rfl) <| wl_gy rfl rfl <| wl_v (ex_eq (ex_eql rfl rfl) (bool_t rfl)) <| wl_gy rfl rfl <| wl_v (mB rfl) <| wl_gy rfl rfl <| wl_v (mV (v := ov) rfl) <| wl_gy rfl rfl <| wl_v (mS rfl) <| wl_gy rfl rfl <| wl_c (ec_fn en7) (R1_Same own tag ov _ W7 (hov6.old hO7) (htv6.old hO7)) ?_)
          rintro _ W8 ⟨rfl, hO8⟩
          have hO68 := Old.trans (hO7) hO8
          refine wl_gy rfl rfl <| wl_v (ex_pick_t rfl rfl) <| wl_gy rfl rfl <| wl_v (mB rfl) <| ?_
          by_cases hq : own = tag
          · exact wl_gy rfl (bool_t hq) <| wl_v (ex_ldA Try.underlying27 rfl inf27 rfl (hBW6.old hO68) rfl) <| wl_gy rfl (bool_t hq) <| wl_v (ex_ldA Try.underlying27 rfl inf27 rfl (hB46.old hO68) rfl) <| wl_gy rfl (bool_t hq) <| wl_v (ex_eqlS (by kernel_rfl) rfl rfl (eqTok t t2 _)) <| wl_gy rfl rfl <| wl_v (ex_pick_t (bool_t hq) rfl) <| wl_v (ex_pick_f rfl rfl) <| wl_v (aB rfl) <| wl_nil (body_end ⟨rfl, wv', rfl, rfl, rfl, rfl, rfl, rfl, rfl, by rw [hd']; rfl, by rw [hn', decide_eq_true hq]; rfl, rfl, rfl, HW6.old hO68, HC6.old hO68, hO6'.trans hO68⟩)
          · exact wl_gn rfl (bool_f hq) rfl <| wl_gn rfl (bool_f hq) rfl <| wl_gn rfl (bool_f hq) rfl <| wl_gy rfl rfl <| wl_v (ex_pick_f (bool_f hq) rfl) <| wl_v (ex_pick_f rfl rfl) <| wl_v (aB rfl) <| wl_nil (body_end ⟨rfl, wv', rfl, rfl, rfl, rfl, rfl, rfl, rfl, by rw [hd']; rfl, by rw [hn', decide_eq_false hq]; rfl, rfl, rfl, HW6.old hO68, HC6.old hO68, hO6'.trans hO68⟩)
    · have hd0 : hd = false := by rw [← hdE0]; unfold hdV; rw [decide_eq_false he]; rfl
      have hn0 : hn = false := by rw [← hnE0]; unfold hnV; rw [decide_eq_false he]; rfl
      subst hd0
      subst hn0
      refine w_sreg (wl_v (mB rfl) <| wl_v (mB rfl) <| wl_gy rfl rfl <| wl_v (mI rfl) <| wl_gy rfl rfl <| wl_v (ex_eq (ex_eql rfl rfl) (bool_f (by omega))) <| wl_gy rfl rfl <| wl_v (mB rfl) <| wl_gn rfl rfl rfl <| wl_gn rfl rfl rfl <| wl_gn rfl rfl rfl <| wl_gy rfl rfl <| wl_v (ex_pick_f rfl rfl) <| wl_v (ex_pick_f rfl rfl) <| wl_v (aB rfl) <| wl_end ?_)
      exact w_reg (wl_v (mB rfl) <| wl_v (mB rfl) <| wl_gy rfl rfl <| wl_v (mI rfl) <| wl_gy rfl rfl <| wl_v (ex_eq (ex_eql rfl rfl) (bool_f (by omega))) <| wl_gy rfl rfl <| wl_v (mB rfl) <| wl_gn rfl rfl rfl <| wl_gn rfl rfl rfl <| wl_gn rfl rfl rfl <| wl_gy rfl rfl <| wl_v (ex_pick_f rfl rfl) <| wl_gy rfl rfl <| wl_v (mB rfl) <| wl_gn rfl rfl rfl <| wl_gn rfl rfl rfl <| wl_gn rfl rfl rfl <| wl_gy rfl rfl <| wl_v (ex_pick_f rfl rfl) <| wl_v (ex_pick_f rfl rfl) <| wl_v (aB rfl) <| wl_nil (body_end ⟨rfl, wv', rfl, rfl, rfl, rfl, rfl, rfl, rfl, by rw [hd', decide_eq_false he]; rfl, by rw [hn', decide_eq_false he]; rfl, rfl, rfl, HW6.old (Old.refl W6), HC6.old (Old.refl W6), hO6'.trans (Old.refl W6)⟩))
  · rintro f W f41 ⟨wv, f0, f1, f2, f7, f8, f9, f10, f11, f12, f39, f40, HW, HC, hO⟩
    rw [List.take_length] at f11 f12 HW
    obtain ⟨f, rfl⟩ := xp9 f0 f1 f2 f7 f8 f9 f10 f11 f12
    have hhd : hdV er tag (opened l) = true ↔ heardV l a := by
      rw [hH1]
      simp [hdV]
    have hhn : hnV er tag t (opened l) = true ↔ honestV l a := by
      rw [hH2]
      simp only [hnV, Bool.and_eq_true, decide_eq_true_eq, List.any_eq_true]
      exact ⟨fun ⟨h1, p, hp, h2, h3⟩ => ⟨h1, p, hp, h2, h3.symm⟩, fun ⟨h1, p, hp, h2, h3⟩ => ⟨h1, p, hp, h2, h3.symm⟩⟩
    generalize hdV er tag (opened l) = hd at *
    generalize hnV er tag t (opened l) = hn at *
    have hlW := hl5.old hO
    have haW := (ha.old hA5).old hO
    have hbW := (hb.old hA5).old hO
    have hA6 := hA5.trans hO
    have hsW := hO.size
    have hw0 : Ls (laySl layB) KT W wv (texts (opened l)) := (HW.mono (K' := KT) fun _ _ _ => trivial).ls fun _ _ _ _ => trivial
    have htxl : ∀ p ∈ opened l, p.2.2.length ≤ 140737488355328 := fun p hp => by
      obtain ⟨r, hr, e⟩ := opened_text hp
      have := hsm1 r hr
      rw [e]; omega
    refine then_k ?_
    refine w_sreg (wl_v (mV (v := vl) rfl) <| wl_c (ec_fn en8) (inspect_Issued l vl W _ hlW (by omega) htxl) ?_)
    rintro gv W2 ⟨hg, hO2⟩
    have hg : Ls (laySl layB) KT W2 gv (texts (opened l)) := hg.mono fun _ _ _ => trivial
    have hw2 := hw0.old hO2
    generalize texts (opened l) = tx at *
    refine wl_v (aV (v := gv) rfl) <| wl_end ?_
    refine w_seq ?_
    refine w_sreg (wl_v (mV (v := gv) rfl) <| wl_v (ex_lenL Try.underlying30 rfl hg) <| wl_v (mV (v := wv) rfl) <| wl_v (ex_lenL Try.underlying30 rfl hw2) <| wl_v (ex_eq (ex_neq rfl rfl) (bool_nf rfl)) <| wl_v (mB rfl) <| wl_gy rfl rfl <| wl_v (mV (v := vl) rfl) <| wl_gy rfl rfl <| wl_v (mS rfl) <| wl_gy rfl rfl <| wl_c (ec_fn en9) (inspect_Heard l a vl _ W2 _ (hlW.old hO2) (haW.old hO2) hd hhd) ?_)
    rintro _ W3 ⟨rfl, hO3⟩
    have hO23 := hO2.trans hO3
    refine wl_gy rfl rfl <| wl_v (mB rfl) <| wl_gy rfl rfl <| wl_v (ex_eq (ex_neq_bool Try.underlying4 rfl rfl) (congrArg Value.bool (show (!(hd == hd)) = false by simp))) <| wl_v (ex_pick_f rfl rfl) <| wl_v (mB rfl) <| wl_gy rfl rfl <| wl_v (mV (v := vl) rfl) <| wl_gy rfl rfl <| wl_v (mS rfl) <| wl_gy rfl rfl <| wl_c (ec_fn en10) (inspect_Honest l a vl _ W3 _ (hlW.old hO23) (haW.old hO23) hn hhn) ?_
    rintro _ W4 ⟨rfl, hO4⟩
    have hO24 := hO23.trans hO4
    refine wl_gy rfl rfl <| wl_v (mB rfl) <| wl_gy rfl rfl <| wl_v (ex_eq (ex_neq_bool Try.underlying4 rfl rfl) (congrArg Value.bool (show (!(hn == hn)) = false by simp))) <| wl_v (ex_pick_f rfl rfl) <| wl_end ?_
    refine w_if_f rfl (w_skip (then_k ?_))
    have hg4 := (hg.old hO3).old hO4
    have hw4 := (hw2.old hO3).old hO4
    have hgl := hg4.lt
    refine w_seq ?_
    refine w_sreg (wl_v (mV (v := wv) rfl) <| wl_v (ex_lenL Try.underlying30 rfl hw4) <| wl_v (mI rfl) <| wl_end ?_)
    refine w_forR 108 tx.length (fun j f W' => f 1 = .slice aA a.length ac ∧ f 2 = .slice bA b.length bc ∧ f 7 = .pointer (some ⟨g7, 0, none⟩) ∧ f 8 = .slice tA tag.length tc ∧ f 9 = .int .i64 (er : Int) ∧ f 10 = wv ∧ f 18 = gv ∧ f 107 = .int .i64 (tx.length : Int) ∧ Old W4 W') rfl
      ⟨rfl, rfl, rfl, rfl, rfl, rfl, rfl, rfl, Old.refl _⟩
      (fun j f W hj hi hI => by
        obtain ⟨f1, f2, f7, f8, f9, f10, f18, f107, h2⟩ := hI
        exact w_reg (wl_v (ex_lss hi f107) <| wl_nil (reg_end ⟨rfl, hi, f1, f2, f7, f8, f9, f10, f18, f107, h2⟩)))
      (fun j f W hj hi hI => w_reg (wl_v (ex_add64 hi rfl (by omega) (by omega)) <| wl_v (mI rfl) <| wl_nil (reg_end ⟨rfl, hI⟩))) ?_ ?_
    · rintro j f W5 hj f108 ⟨f1, f2, f7, f8, f9, f10, f18, f107, hO5⟩
      obtain ⟨f, rfl⟩ := xp9 f108 f1 f2 f7 f8 f9 f10 f18 f107
      have hg5 := hg4.old hO5
      have hw5 := hw4.old hO5
      obtain ⟨cs1, ⟨x1, rfl, hx1⟩, hc1⟩ := hg5.at_ hj
      obtain ⟨cs2, ⟨x2, rfl, hx2⟩, hc2⟩ := hw5.at_ hj
      refine w_sreg (wl_v (mI rfl) <| wl_v (aI rfl) <| wl_end ?_)
      refine w_sdraw (fun V => Old W5 V) [(0, true), (1, true), (2, true), (3, true), (4, true), (5, true), (6, true), (7, true), (8, false), (9, true)] mixed (by decide +kernel) (Old.refl W5).drew ?_
      refine wd_f rfl rfl (fun W hS => mV (v := gv) rfl) <| wd_f rfl rfl (fun W hS => mI rfl) <| wd_f rfl rfl (fun W hS => ex_idxL (i := j) Try.underlying30 inf23 rfl hg5 rfl (by decide) rfl rfl hj) <| wd_f rfl rfl (fun W hS => ex_load1 Try.underlying23 rfl (hS.cell (hc1 0 _ rfl))) <| wd_f rfl rfl (fun W hS => mV (v := wv) rfl) <| wd_f rfl rfl (fun W hS => mI rfl) <| wd_f rfl rfl (fun W hS => ex_idxL (i := j) Try.underlying30 inf23 rfl hw5 rfl (by decide) rfl rfl hj) <| wd_f rfl rfl (fun W hS => ex_load1 Try.underlying23 rfl (hS.cell (hc2 0 _ rfl))) <| wd_c rfl rfl (ec_fn en7) (R1_Same tx[j] tx[j] x1 x2 _ (hx1.old (Old.refl W5).drew).isB (hx2.old (Old.refl W5).drew).isB) ?_
      rintro _ W6 ⟨rfl, hO6⟩
      refine ⟨(Old.refl W5).drew.trans hO6, ?_⟩
      refine wd_f rfl rfl (fun W hS => ex_eq (ex_not rfl) (congrArg (fun b => Value.bool (!b)) (decide_eq_true rfl))) <| wd_nil ?_
      exact w_if_f rfl (w_skip (body_end ⟨rfl, rfl, rfl, rfl, rfl, rfl, rfl, rfl, rfl, hO5.trans ((Old.refl W5).drew.trans hO6)⟩))
    · rintro f W5 f108 ⟨f1, f2, f7, f8, f9, f10, f18, f107, hO5⟩
      obtain ⟨f, rfl⟩ := xp5 f1 f2 f7 f8 f9
      have hO45 := hO24.trans hO5
      have hA7 := hA6.trans hO45
      refine then_k ?_
      refine w_sreg (wl_v (mS rfl) <| wl_v (mS rfl) <| wl_c (ec_fn en11) (inspect_Splice a b _ _ W5 (haW.old hO45) (hbW.old hO45)) ?_)
      rintro _ W6 ⟨sv, rfl, hsv, hO6⟩
      refine wl_v (mT rfl) <| wl_v (ex_extract rfl rfl) <| wl_v (ex_extract rfl rfl) <| wl_v (aV (v := sv) rfl) <| wl_v (aI rfl) <| wl_end ?_
      have hO56 := hO45.trans hO6
      refine w_sreg (wl_v (mS rfl) <| wl_c (ec_fn en6) (R10_Open b _ W6 (hbW.old hO56)) ?_)
      rintro _ W7 ⟨ov, rfl, hov, hO7⟩
      have hmb := @openV_may b
      generalize (openV b).1 = t3 at *
      generalize (openV b).2.1 = tag3 at *
      generalize (openV b).2.2 = er3 at *
      refine wl_v (mT rfl) <| wl_v (ex_extract rfl rfl) <| wl_v (ex_extract rfl rfl) <| wl_v (ex_extract rfl rfl) <| wl_new (cs := t3.cs) inf27 rfl rfl rfl rfl rfl fun W8 hB8 hO8 => wl_v (aV (v := ov) rfl) <| wl_v (aI rfl) <| wl_end ?_
      have hO78 := hO7.trans hO8
      have hsv8 := hsv.old hO78
      have hov8 := hov.old hO8
      have hA8 := hA6.trans (hO56.trans hO78)
      have hB78 : Box W8 g7 27 t.cs := ((hB5.old hO).old hO56).old hO78
      generalize spliceV a b = sp at *
      by_cases he : er = 0
      · subst he
        rw [if_neg (by simp)] at hSp
        by_cases he3 : er3 = 0
        · subst he3
          rw [if_neg (by simp)] at hSp
          subst hSp
          obtain ⟨hta, htl⟩ := hma rfl
          obtain ⟨htb, htl3⟩ := hmb rfl
          have htbl := Tok.bytes_len hta.small
          have hpl := putv_len10 (n := tag3.length) (by omega)
          refine w_seq ?_
          refine w_sreg (wl_v (mI rfl) <| wl_v (ex_eq (ex_neq rfl rfl) (bool_nf rfl)) <| wl_v (mB rfl) <| wl_gy rfl rfl <| wl_v (mI rfl) <| wl_gy rfl rfl <| wl_v (ex_eq (ex_neq rfl rfl) (bool_nf rfl)) <| wl_v (ex_pick_f rfl rfl) <| wl_end ?_)
          refine w_if_f rfl (w_skip (then_k ?_))
          refine w_sreg (wl_v (mI rfl) <| wl_v (ex_eq (ex_eql rfl rfl) (bool_t rfl)) <| wl_v (mB rfl) <| wl_gy rfl rfl <| wl_v (mV (v := sv) rfl) <| wl_gy rfl rfl <| wl_v (ex_ldA Try.underlying27 rfl inf27 rfl hB78 rfl) <| wl_gy rfl rfl <| wl_c (ec_fn en13) (R10_Fields t hta.small W8) ?_)
          rintro v9 W9 ⟨HO9, hO9⟩
          refine wl_gy rfl rfl <| wl_v (mV (v := ov) rfl) <| wl_gy rfl rfl <| wl_c (ec_fn en14) (R3_Bytes tag3 ov W9 (hov8.old hO9) (by omega)) ?_
          rintro v10 W10 ⟨HO10, hO10⟩
          have hl7 : (putv tag3.length ++ tag3).length ≤ 42 := by rw [List.length_append]; omega
          have hl8 : (t.bytes ++ (putv tag3.length ++ tag3)).length ≤ 102 := by rw [List.length_append]; omega
          refine wl_gy rfl rfl <| wl_appV rfl (HO9.old hO10) rfl HO10.isB (by rw [List.length_append] at hl8; omega) (hO9.trans hO10).size fun v11 W11 HO11 hg11 _ => ?_
          have hO811 : Old W8 W11 := (hO9.trans hO10).grown hg11 HO9.ge
          refine wl_gy rfl rfl <| wl_c (ec_fn en12) (R4_Put 2 _ v11 W11 HO11.isB (by omega)) ?_
          rintro v12 W12 ⟨HO12, hO12⟩
          have hO812 := hO811.trans hO12
          refine wl_gy rfl rfl <| wl_c (ec_fn en7) (R1_Same _ _ sv v12 W12 (hsv8.old hO812) HO12.isB) ?_
          rintro _ W13 ⟨rfl, hO13⟩
          refine wl_v (ex_pick_t rfl (bool_t rfl)) <| wl_v (aB rfl) <| wl_end ?_
          exact w_ret (end1 rfl ⟨_, rfl, rfl, (hA8.trans hO812).trans hO13⟩)
        · rw [if_pos he3] at hSp
          subst hSp
          refine w_seq ?_
          refine w_sreg (wl_v (mI rfl) <| wl_v (ex_eq (ex_neq rfl rfl) (bool_nf rfl)) <| wl_v (mB rfl) <| wl_gy rfl rfl <| wl_v (mI rfl) <| wl_gy rfl rfl <| wl_v (ex_eq (ex_neq rfl rfl) (bool_nt (by omega))) <| wl_v (ex_pick_f rfl rfl) <| wl_end ?_)
          refine w_if_t rfl ?_
          refine w_seq ?_
          refine w_sreg (wl_v (mI rfl) <| wl_v (ex_eq (ex_eql rfl rfl) (bool_t rfl)) <| wl_end ?_)
          refine w_if_t rfl ?_
          refine w_reg (wl_v (mI rfl) <| wl_v (aI rfl) <| wl_nil (then_k ?_))
          refine w_sreg (wl_v (mI rfl) <| wl_v (mI rfl) <| wl_v (ex_eq (ex_eql rfl rfl) (bool_t rfl)) <| wl_v (mB rfl) <| wl_gy rfl rfl <| wl_v (mV (v := sv) rfl) <| wl_gy rfl rfl <| wl_v (ex_lenB Try.underlying23 rfl hsv8) <| wl_gy rfl rfl <| wl_v (ex_eq (ex_eql rfl rfl) (bool_t rfl)) <| wl_v (ex_pick_t rfl rfl) <| wl_v (aB rfl) <| wl_end ?_)
          exact w_ret (ret_then (end1 rfl ⟨_, rfl, rfl, hA8⟩))
      · rw [if_pos he] at hSp
        subst hSp
        refine w_seq ?_
        refine w_sreg (wl_v (mI rfl) <| wl_v (ex_eq (ex_neq rfl rfl) (bool_nt (by omega))) <| wl_v (mB rfl) <| wl_gn rfl rfl rfl <| wl_gn rfl rfl rfl <| wl_v (ex_pick_t rfl rfl) <| wl_end ?_)
        refine w_if_t rfl ?_
        refine w_seq ?_
        refine w_sreg (wl_v (mI rfl) <| wl_v (ex_eq (ex_eql rfl rfl) (bool_f (by omega))) <| wl_end ?_)
        refine w_if_f rfl (w_skip (then_k ?_))
        refine w_sreg (wl_v (mI rfl) <| wl_v (mI rfl) <| wl_v (ex_eq (ex_eql rfl rfl) (bool_t rfl)) <| wl_v (mB rfl) <| wl_gy rfl rfl <| wl_v (mV (v := sv) rfl) <| wl_gy rfl rfl <| wl_v (ex_lenB Try.underlying23 rfl hsv8) <| wl_gy rfl rfl <| wl_v (ex_eq (ex_eql rfl rfl) (bool_t rfl)) <| wl_v (ex_pick_t rfl rfl) <| wl_v (aB rfl) <| wl_end ?_)
        exact w_ret (ret_then (end1 rfl ⟨_, rfl, rfl, hA8⟩))
end Go.Proofs.Ytcceeigkgklkoaa
