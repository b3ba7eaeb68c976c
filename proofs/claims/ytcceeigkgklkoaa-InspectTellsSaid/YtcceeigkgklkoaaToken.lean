/- tokens: what may be, their fields, what opens; the program's and the document's. -/
import Derived.Test.YtcceeigkgklkoaaRef03
namespace Go.Proofs.Ytcceeigkgklkoaa
open Go.RowKit

structure Tok where
  a : Nat
  b : Nat
  c : Nat
  d : Nat
  e : Nat
  f : Nat
  deriving DecidableEq
def Tok.fl (t : Tok) : List Nat := [t.a, t.b, t.c, t.d, t.e, t.f]
def Tok.cs (t : Tok) : Array Value := #[.int .i64 (t.a : Int), .int .i64 (t.b : Int), .int .i64 (t.c : Int), .int .i64 (t.d : Int), .int .i64 (t.e : Int), .int .i64 (t.f : Int)]
def Tok.v (t : Tok) : Value := .agg t.cs
def Tok.may (t : Tok) : Prop := 1 ≤ t.a ∧ t.a ≤ 2147483648 ∧ 1 ≤ t.b ∧ t.b ≤ 2147483648 ∧ t.c ≤ 4095 ∧ t.d ≤ 1099511627776 ∧ t.d ≤ t.e ∧ t.e ≤ 1099511627776 ∧ 1 ≤ t.f ∧ t.f ≤ 1048576
instance (t : Tok) : Decidable t.may := by unfold Tok.may; infer_instance
def Tok.small (t : Tok) : Prop := t.a < 9223372036854775808 ∧ t.b < 9223372036854775808 ∧ t.c < 9223372036854775808 ∧ t.d < 9223372036854775808 ∧ t.e < 9223372036854775808 ∧ t.f < 9223372036854775808
def Tok.bytes (t : Tok) : List UInt8 := putv t.a ++ putv t.b ++ putv t.c ++ putv t.d ++ putv t.e ++ putv t.f
theorem Tok.bytes_len {t : Tok} (h : t.small) : t.bytes.length ≤ 60 := by
  obtain ⟨h1, h2, h3, h4, h5, h6⟩ := h
  have e1 := putv_len10 (n := t.a) (by omega)
  have e2 := putv_len10 (n := t.b) (by omega)
  have e3 := putv_len10 (n := t.c) (by omega)
  have e4 := putv_len10 (n := t.d) (by omega)
  have e5 := putv_len10 (n := t.e) (by omega)
  have e6 := putv_len10 (n := t.f) (by omega)
  simp only [Tok.bytes, List.length_append]
  omega

theorem token_within (x lo hi : Int) (w : World) :
    Calls Try.prog 58 #[.int .i64 x, .int .i64 lo, .int .i64 hi] w fun e w' => ∃ v, e = .returned v ∧ v = .bool (decide (lo ≤ x) && decide (x ≤ hi)) ∧ w' = w := by
  refine enter (l := [_, _, _]) 15 Try.func58 rfl rfl (by simp) ?_
  refine w_sreg (wl_v (aB rfl) <| wl_end ?_)
  refine w_sreg (wl_v (mI rfl) <| wl_v (mI rfl) <| wl_v (ex_geq rfl rfl) <| wl_v (mB rfl) <| wl_and 3 3 [11, 12, 13] rfl rfl rfl rfl (fun hp => wl_gy rfl (congrArg Value.bool hp) <| wl_v (mI rfl) <| wl_gy rfl (congrArg Value.bool hp) <| wl_v (mI rfl) <| wl_gy rfl (congrArg Value.bool hp) <| wl_v (ex_leq rfl rfl) <| wl_nil (amp_end (ag3 rfl rfl rfl) rfl rfl)) fun _ => wl_v (aB rfl) <| wl_end ?_)
  exact w_ret (end1 rfl ⟨_, rfl, rfl, rfl⟩)
theorem R10_from (x lo hi : Int) (w : World) :
    Calls Try.prog 38 #[.int .i64 x, .int .i64 lo, .int .i64 hi] w fun e w' => ∃ v, e = .returned v ∧ v = .bool (decide (lo ≤ x) && decide (x ≤ hi)) ∧ w' = w := by
  refine enter (l := [_, _, _]) 15 Try.func38 rfl rfl (by simp) ?_
  refine w_sreg (wl_v (aB rfl) <| wl_end ?_)
  refine w_sreg (wl_v (mI rfl) <| wl_v (mI rfl) <| wl_v (ex_geq rfl rfl) <| wl_v (mB rfl) <| wl_and 3 3 [11, 12, 13] rfl rfl rfl rfl (fun hp => wl_gy rfl (congrArg Value.bool hp) <| wl_v (mI rfl) <| wl_gy rfl (congrArg Value.bool hp) <| wl_v (mI rfl) <| wl_gy rfl (congrArg Value.bool hp) <| wl_v (ex_leq rfl rfl) <| wl_nil (amp_end (ag3 rfl rfl rfl) rfl rfl)) fun _ => wl_v (aB rfl) <| wl_end ?_)
  exact w_ret (end1 rfl ⟨_, rfl, rfl, rfl⟩)

theorem token_May (t : Tok) (w : World) :
    Calls Try.prog 45 #[t.v] w fun e w' => ∃ v, e = .returned v ∧ v = .bool (decide t.may) ∧ Old w w' := by
  refine enter (l := [_]) 33 Try.func45 rfl rfl (by simp) ?_
  have hD : Old w (w.alloc (.cells t.cs 27)) := (Old.refl w).alloc _
  have hB := Box.new w 27 t.cs
  refine w_sreg (wl_v (ex_box (v := t.v) (cs := t.cs) rfl rfl) <| wl_v (aB rfl) <| wl_end ?_)
  generalize w.heap.size = g at *
  generalize w.alloc (.cells t.cs 27) = w1 at *
  refine w_sreg (wl_v (ex_fld fld27_0 rfl) <| wl_v (ex_load1 Try.underlying3 rfl (hB.cell rfl)) <| wl_c (ec_fn en58) (token_within _ _ _ _) ?_)
  rintro _ w2 ⟨rfl, rfl⟩
  refine wl_v (mB rfl) <| wl_and 3 3 [7, 8, 9] rfl rfl rfl rfl (fun hp => wl_gy rfl (congrArg Value.bool hp) <| wl_v (ex_fld fld27_1 rfl) <| wl_gy rfl (congrArg Value.bool hp) <| wl_v (ex_load1 Try.underlying3 rfl (hB.cell rfl)) <| wl_gy rfl (congrArg Value.bool hp) <| wl_c (ec_fn en58) (token_within _ _ _ _) fun v w1 hR => by
      obtain ⟨rfl, rfl⟩ := hR
      exact wl_nil (amp_end (ag3 rfl rfl rfl) rfl rfl)) fun _ => ?_
  refine wl_v (mB rfl) <| wl_and 8 3 [12, 13, 14] rfl rfl rfl rfl (fun hp => wl_gy rfl (congrArg Value.bool hp) <| wl_v (ex_fld fld27_2 rfl) <| wl_gy rfl (congrArg Value.bool hp) <| wl_v (ex_load1 Try.underlying3 rfl (hB.cell rfl)) <| wl_gy rfl (congrArg Value.bool hp) <| wl_c (ec_fn en58) (token_within _ _ _ _) fun v w1 hR => by
      obtain ⟨rfl, rfl⟩ := hR
      exact wl_nil (amp_end (ag3 rfl rfl rfl) rfl rfl)) fun _ => ?_
  refine wl_v (mB rfl) <| wl_and 13 3 [17, 18, 19] rfl rfl rfl rfl (fun hp => wl_gy rfl (congrArg Value.bool hp) <| wl_v (ex_fld fld27_3 rfl) <| wl_gy rfl (congrArg Value.bool hp) <| wl_v (ex_load1 Try.underlying3 rfl (hB.cell rfl)) <| wl_gy rfl (congrArg Value.bool hp) <| wl_c (ec_fn en58) (token_within _ _ _ _) fun v w1 hR => by
      obtain ⟨rfl, rfl⟩ := hR
      exact wl_nil (amp_end (ag3 rfl rfl rfl) rfl rfl)) fun _ => ?_
  refine wl_v (mB rfl) <| wl_and 18 5 [22, 23, 24, 25, 26] rfl rfl rfl rfl (fun hp => wl_gy rfl (congrArg Value.bool hp) <| wl_v (ex_fld fld27_4 rfl) <| wl_gy rfl (congrArg Value.bool hp) <| wl_v (ex_load1 Try.underlying3 rfl (hB.cell rfl)) <| wl_gy rfl (congrArg Value.bool hp) <| wl_v (ex_fld fld27_3 rfl) <| wl_gy rfl (congrArg Value.bool hp) <| wl_v (ex_load1 Try.underlying3 rfl (hB.cell rfl)) <| wl_gy rfl (congrArg Value.bool hp) <| wl_c (ec_fn en58) (token_within _ _ _ _) fun v w1 hR => by
      obtain ⟨rfl, rfl⟩ := hR
      exact wl_nil (amp_end (ag5 rfl rfl rfl rfl rfl) rfl rfl)) fun _ => ?_
  refine wl_v (mB rfl) <| wl_and 25 3 [29, 30, 31] rfl rfl rfl rfl (fun hp => wl_gy rfl (congrArg Value.bool hp) <| wl_v (ex_fld fld27_5 rfl) <| wl_gy rfl (congrArg Value.bool hp) <| wl_v (ex_load1 Try.underlying3 rfl (hB.cell rfl)) <| wl_gy rfl (congrArg Value.bool hp) <| wl_c (ec_fn en58) (token_within _ _ _ _) fun v w1 hR => by
      obtain ⟨rfl, rfl⟩ := hR
      exact wl_nil (amp_end (ag3 rfl rfl rfl) rfl rfl)) fun _ => wl_v (aB rfl) <| wl_end ?_
  refine w_ret (end1 rfl ⟨_, rfl, congrArg Value.bool ?_, hD⟩)
  refine Bool.eq_iff_iff.2 (Iff.trans ?_ decide_eq_true_iff.symm)
  simp only [Bool.and_eq_true, decide_eq_true_eq, Tok.may]
  omega
theorem R10_May (t : Tok) (w : World) :
    Calls Try.prog 21 #[t.v] w fun e w' => ∃ v, e = .returned v ∧ v = .bool (decide t.may) ∧ Old w w' := by
  refine enter (l := [_]) 38 Try.func21 rfl rfl (by simp) ?_
  have hD : Old w (w.alloc (.cells t.cs 27)) := (Old.refl w).alloc _
  have hB := Box.new w 27 t.cs
  refine w_sreg (wl_v (ex_box (v := t.v) (cs := t.cs) rfl rfl) <| wl_v (aB rfl) <| wl_end ?_)
  generalize w.heap.size = g at *
  generalize w.alloc (.cells t.cs 27) = w1 at *
  refine w_sreg (wl_v (ex_fld fld27_0 rfl) <| wl_v (ex_load1 Try.underlying3 rfl (hB.cell rfl)) <| wl_c (ec_fn en38) (R10_from _ _ _ _) ?_)
  rintro _ w2 ⟨rfl, rfl⟩
  refine wl_v (mB rfl) <| wl_and 3 3 [7, 8, 9] rfl rfl rfl rfl (fun hp => wl_gy rfl (congrArg Value.bool hp) <| wl_v (ex_fld fld27_1 rfl) <| wl_gy rfl (congrArg Value.bool hp) <| wl_v (ex_load1 Try.underlying3 rfl (hB.cell rfl)) <| wl_gy rfl (congrArg Value.bool hp) <| wl_c (ec_fn en38) (R10_from _ _ _ _) fun v w1 hR => by
      obtain ⟨rfl, rfl⟩ := hR
      exact wl_nil (amp_end (ag3 rfl rfl rfl) rfl rfl)) fun _ => ?_
  refine wl_v (mB rfl) <| wl_and 8 3 [12, 13, 14] rfl rfl rfl rfl (fun hp => wl_gy rfl (congrArg Value.bool hp) <| wl_v (ex_fld fld27_2 rfl) <| wl_gy rfl (congrArg Value.bool hp) <| wl_v (ex_load1 Try.underlying3 rfl (hB.cell rfl)) <| wl_gy rfl (congrArg Value.bool hp) <| wl_c (ec_fn en38) (R10_from _ _ _ _) fun v w1 hR => by
      obtain ⟨rfl, rfl⟩ := hR
      exact wl_nil (amp_end (ag3 rfl rfl rfl) rfl rfl)) fun _ => ?_
  refine wl_v (mB rfl) <| wl_and 13 3 [17, 18, 19] rfl rfl rfl rfl (fun hp => wl_gy rfl (congrArg Value.bool hp) <| wl_v (ex_fld fld27_3 rfl) <| wl_gy rfl (congrArg Value.bool hp) <| wl_v (ex_load1 Try.underlying3 rfl (hB.cell rfl)) <| wl_gy rfl (congrArg Value.bool hp) <| wl_c (ec_fn en38) (R10_from _ _ _ _) fun v w1 hR => by
      obtain ⟨rfl, rfl⟩ := hR
      exact wl_nil (amp_end (ag3 rfl rfl rfl) rfl rfl)) fun _ => ?_
  refine wl_v (mB rfl) <| wl_and 18 3 [22, 23, 24] rfl rfl rfl rfl (fun hp => wl_gy rfl (congrArg Value.bool hp) <| wl_v (ex_fld fld27_4 rfl) <| wl_gy rfl (congrArg Value.bool hp) <| wl_v (ex_load1 Try.underlying3 rfl (hB.cell rfl)) <| wl_gy rfl (congrArg Value.bool hp) <| wl_c (ec_fn en38) (R10_from _ _ _ _) fun v w1 hR => by
      obtain ⟨rfl, rfl⟩ := hR
      exact wl_nil (amp_end (ag3 rfl rfl rfl) rfl rfl)) fun _ => ?_
  refine wl_v (mB rfl) <| wl_and 23 5 [27, 28, 29, 30, 31] rfl rfl rfl rfl (fun hp => wl_gy rfl (congrArg Value.bool hp) <| wl_v (ex_fld fld27_3 rfl) <| wl_gy rfl (congrArg Value.bool hp) <| wl_v (ex_load1 Try.underlying3 rfl (hB.cell rfl)) <| wl_gy rfl (congrArg Value.bool hp) <| wl_v (ex_fld fld27_4 rfl) <| wl_gy rfl (congrArg Value.bool hp) <| wl_v (ex_load1 Try.underlying3 rfl (hB.cell rfl)) <| wl_gy rfl (congrArg Value.bool hp) <| wl_v (ex_leq rfl rfl) <| wl_nil (amp_end (ag5 rfl rfl rfl rfl rfl) rfl rfl)) fun _ => ?_
  refine wl_v (mB rfl) <| wl_and 30 3 [34, 35, 36] rfl rfl rfl rfl (fun hp => wl_gy rfl (congrArg Value.bool hp) <| wl_v (ex_fld fld27_5 rfl) <| wl_gy rfl (congrArg Value.bool hp) <| wl_v (ex_load1 Try.underlying3 rfl (hB.cell rfl)) <| wl_gy rfl (congrArg Value.bool hp) <| wl_c (ec_fn en38) (R10_from _ _ _ _) fun v w1 hR => by
      obtain ⟨rfl, rfl⟩ := hR
      exact wl_nil (amp_end (ag3 rfl rfl rfl) rfl rfl)) fun _ => wl_v (aB rfl) <| wl_end ?_
  refine w_ret (end1 rfl ⟨_, rfl, congrArg Value.bool ?_, hD⟩)
  refine Bool.eq_iff_iff.2 (Iff.trans ?_ decide_eq_true_iff.symm)
  simp only [Bool.and_eq_true, decide_eq_true_eq, Tok.may]
  omega
/-! ### Fields -/
def Tok.pre (t : Tok) (i : Nat) : List UInt8 := (t.fl.take i).flatMap putv
theorem Tok.pre_next (t : Tok) {i : Nat} (hi : i < 6) : t.pre (i + 1) = t.pre i ++ putv (t.fl[i]'hi) := by
  unfold Tok.pre
  rw [List.take_succ_eq_append_getElem hi, List.flatMap_append]
  simp
theorem Tok.pre_six (t : Tok) : t.pre 6 = t.bytes := by
  simp [Tok.pre, Tok.fl, Tok.bytes, List.take]
theorem Tok.pre_len {t : Tok} (h : t.small) : ∀ i, i ≤ 6 → (t.pre i).length ≤ 10 * i
  | 0, _ => by simp [Tok.pre]
  | i + 1, hi => by
    have h1 := Tok.pre_len h i (by omega)
    rw [t.pre_next (by omega), List.length_append]
    have : t.fl[i]'(show i < 6 by omega) < 18446744073709551616 := by
      have hm : t.fl[i]'(show i < 6 by omega) ∈ t.fl := List.getElem_mem _
      simp only [Tok.fl, List.mem_cons, List.not_mem_nil, or_false] at hm
      obtain ⟨h1, h2, h3, h4, h5, h6⟩ := h
      simp only [Tok.fl] at *
      omega
    have := putv_len10 this
    omega
theorem Tok.at_small {t : Tok} (h : t.small) {i : Nat} (hi : i < 6) : t.fl[i]'hi < 9223372036854775808 := by
  have hm : t.fl[i]'hi ∈ t.fl := List.getElem_mem _
  simp only [Tok.fl, List.mem_cons, List.not_mem_nil, or_false] at hm
  obtain ⟨h1, h2, h3, h4, h5, h6⟩ := h
  simp only [Tok.fl] at *
  omega
theorem Tok.cs_at (t : Tok) {i : Nat} (hi : i < 6) : t.cs[i]? = some (.int .i64 ((t.fl[i]'hi : Nat) : Int)) := by
  rcases i with _ | _ | _ | _ | _ | _ | i <;> first | rfl | omega
theorem token_Fields (t : Tok) (ht : t.small) (w : World) :
    Calls Try.prog 28 #[t.v] w fun e w' => ∃ v, e = .returned v ∧ OwnB w.heap.size w' v t.bytes ∧ Old w w' := by
  refine enter (l := [_]) 30 Try.func28 rfl rfl (by simp) ?_
  have hD : Old w (w.alloc (.cells t.cs 27)) := (Old.refl w).alloc _
  have hB := Box.new w 27 t.cs
  refine w_sreg (wl_v (ex_box (v := t.v) (cs := t.cs) rfl rfl) <| wl_v (aS rfl) <| wl_end ?_)
  have hg0 : w.heap.size ≤ w.heap.size := Nat.le_refl _
  generalize hg : w.heap.size = g at hB
  generalize w.alloc (.cells t.cs 27) = w1 at *
  have hD2 : Old w1 (w1.alloc (.cells #[.slice none 0 0] 66)) := (Old.refl w1).alloc _
  have hW : WrP (w1.alloc (.cells #[.slice none 0 0] 66)) w1.heap.size [] := ⟨_, Box.new _ _ _, OwnB.nil _ _⟩
  have hB2 := hB.old hD2
  have hle := hD.size
  have hlt := hB.lt
  refine w_sreg (wl_v (ex_build #[.slice none 0 0] (by kernel_rfl)) <| wl_v (ex_box (v := .agg #[.slice none 0 0]) (cs := #[.slice none 0 0]) rfl rfl) <| wl_v (aP rfl) <| wl_end ?_)
  have hD3 := hD.trans hD2
  generalize hh : w1.heap.size = h at *
  generalize w1.alloc (.cells #[.slice none 0 0] 66) = w2 at *
  refine w_seq ?_
  refine w_sreg (wl_v (ex_fld fld27_0 rfl) <| wl_v (ex_load1 Try.underlying3 rfl (hB2.cell rfl)) <| wl_v (ex_fld fld27_1 rfl) <| wl_v (ex_load1 Try.underlying3 rfl (hB2.cell rfl)) <| wl_v (ex_fld fld27_2 rfl) <| wl_v (ex_load1 Try.underlying3 rfl (hB2.cell rfl)) <| wl_v (ex_fld fld27_3 rfl) <| wl_v (ex_load1 Try.underlying3 rfl (hB2.cell rfl)) <| wl_v (ex_fld fld27_4 rfl) <| wl_v (ex_load1 Try.underlying3 rfl (hB2.cell rfl)) <| wl_v (ex_fld fld27_5 rfl) <| wl_v (ex_load1 Try.underlying3 rfl (hB2.cell rfl)) <| wl_v (ex_build t.cs (by kernel_rfl)) <| wl_v (mI rfl) <| wl_end ?_)
  refine w_block ?_
  refine w_loop (fun k f w' => ∃ i : Nat, f 3 = .pointer (some ⟨h, 0, none⟩) ∧ f 20 = .agg t.cs ∧ f 21 = .int .i64 (i : Int) ∧ k = 6 - i ∧ i ≤ 6 ∧ WrP w' h (t.pre i) ∧ Below h w2 w') 6 ?_ ?_
  · exact ⟨0, rfl, rfl, rfl, rfl, by omega, hW, Below.refl _ _⟩
  rintro k f w' ⟨i, h3, h20, h21, rfl, hi, hw, hb⟩
  obtain ⟨f, rfl⟩ := xp3 h3 h20 h21
  refine w_sreg (wl_v (ex_lss rfl rfl) <| wl_end ?_)
  refine w_seq (w_ifx rfl (fun h1 => w_exit (exit_then (exit_then (exit_hit (then_k ?_))))) (fun h1 => w_skip (then_k ?_)))
  · have he : i = 6 := by omega
    subst he
    rw [t.pre_six] at hw
    have hbl := Tok.bytes_len ht
    refine w_sreg (wl_v (mP rfl) <| wl_c (ec_fn en29) (field_Out h _ w' hw (by omega)) ?_)
    rintro v3 w3 ⟨HO3, HB3⟩
    refine wl_v (aV (v := v3) rfl) <| wl_end ?_
    have hA : Old w w' := hD3.of_below hb (by omega)
    exact w_ret (end1 rfl ⟨_, rfl, HO3.base (by have := hA.size; omega), hA.trans HB3⟩)
  have hlt6 : i < 6 := by omega
  have hpl := Tok.pre_len ht i (by omega)
  refine w_seq ?_
  refine w_block ?_
  refine w_sreg (wl_v (ex_index1 Try.underlying90 Try.underlying3 inf3 rfl rfl (by omega) (by omega) (t.cs_at hlt6)) <| wl_v (aI rfl) <| wl_end ?_)
  refine w_reg (wl_v (mP rfl) <| wl_v (mI rfl) <| wl_c (ec_fn en46) (field_wNumber h _ _ w' hw (Tok.at_small ht hlt6) (by omega)) ?_)
  rintro v4 w4 ⟨hw4, hb4⟩
  refine wl_nil (norm_block (then_k ?_))
  exact w_reg (wl_v (ex_add64 rfl rfl (by omega) (by omega)) <| wl_v (mI rfl) <| wl_nil (round_end (6 - (i + 1)) (by omega) ⟨i + 1, rfl, rfl, rfl, rfl, by omega, by rw [t.pre_next hlt6]; exact hw4, Below.trans hb hb4⟩))

theorem R10_Fields (t : Tok) (ht : t.small) (w : World) :
    Calls Try.prog 13 #[t.v] w fun e w' => ∃ v, e = .returned v ∧ OwnB w.heap.size w' v t.bytes ∧ Old w w' := by
  obtain ⟨t1, t2, t3, t4, t5, t6⟩ := ht
  have e1 := putv_len10 (n := t.a) (by omega)
  have e2 := putv_len10 (n := t.b) (by omega)
  have e3 := putv_len10 (n := t.c) (by omega)
  have e4 := putv_len10 (n := t.d) (by omega)
  have e5 := putv_len10 (n := t.e) (by omega)
  have e6 := putv_len10 (n := t.f) (by omega)
  refine enter (l := [_]) 34 Try.func13 rfl rfl (by simp) ?_
  have hD : Old w (w.alloc (.cells t.cs 27)) := (Old.refl w).alloc _
  have hB := Box.new w 27 t.cs
  refine w_sreg (wl_v (ex_box (v := t.v) (cs := t.cs) rfl rfl) <| wl_v (aS rfl) <| wl_end ?_)
  generalize hg : w.heap.size = g at hB
  generalize w.alloc (.cells t.cs 27) = w1 at *
  have HO0 : OwnB w1.heap.size w1 (.slice none 0 0) [] := OwnB.nil _ _
  have hle := hD.size
  refine w_sreg (wl_v (aS rfl) <| wl_end ?_)
  refine w_sreg (wl_v (mS rfl) <| wl_v (ex_fld fld27_0 rfl) <| wl_v (ex_load1 Try.underlying3 rfl (hB.cell rfl)) <| wl_c (ec_fn en33) (R3_Num t.a t1 w1) ?_)
  rintro u1 x1 ⟨HU1, HX1⟩
  refine wl_appV rfl (HO0.old HX1) rfl HU1.isB (by simp; omega) HX1.size fun v1 y1 HO1 hg1 _ => wl_v (aV (v := v1) rfl) <| wl_end ?_
  have HY1 := grown2 HX1 (HO0.old HX1) hg1
  refine w_sreg (wl_v (mV (v := v1) rfl) <| wl_v (ex_fld fld27_1 rfl) <| wl_v (ex_load1 Try.underlying3 rfl ((hB.old HY1).cell rfl)) <| wl_c (ec_fn en33) (R3_Num t.b t2 y1) ?_)
  rintro u2 x2 ⟨HU2, HX2⟩
  refine wl_appV rfl (HO1.old HX2) rfl HU2.isB (by simp; omega) (HY1.trans HX2).size fun v2 y2 HO2 hg2 _ => wl_v (aV (v := v2) rfl) <| wl_end ?_
  have HY2 := grown2 (HY1.trans HX2) (HO1.old HX2) hg2
  refine w_sreg (wl_v (mV (v := v2) rfl) <| wl_v (ex_fld fld27_2 rfl) <| wl_v (ex_load1 Try.underlying3 rfl ((hB.old HY2).cell rfl)) <| wl_c (ec_fn en33) (R3_Num t.c t3 y2) ?_)
  rintro u3 x3 ⟨HU3, HX3⟩
  refine wl_appV rfl (HO2.old HX3) rfl HU3.isB (by simp; omega) (HY2.trans HX3).size fun v3 y3 HO3 hg3 _ => wl_v (aV (v := v3) rfl) <| wl_end ?_
  have HY3 := grown2 (HY2.trans HX3) (HO2.old HX3) hg3
  refine w_sreg (wl_v (mV (v := v3) rfl) <| wl_v (ex_fld fld27_3 rfl) <| wl_v (ex_load1 Try.underlying3 rfl ((hB.old HY3).cell rfl)) <| wl_c (ec_fn en33) (R3_Num t.d t4 y3) ?_)
  rintro u4 x4 ⟨HU4, HX4⟩
  refine wl_appV rfl (HO3.old HX4) rfl HU4.isB (by simp; omega) (HY3.trans HX4).size fun v4 y4 HO4 hg4 _ => wl_v (aV (v := v4) rfl) <| wl_end ?_
  have HY4 := grown2 (HY3.trans HX4) (HO3.old HX4) hg4
  refine w_sreg (wl_v (mV (v := v4) rfl) <| wl_v (ex_fld fld27_4 rfl) <| wl_v (ex_load1 Try.underlying3 rfl ((hB.old HY4).cell rfl)) <| wl_c (ec_fn en33) (R3_Num t.e t5 y4) ?_)
  rintro u5 x5 ⟨HU5, HX5⟩
  refine wl_appV rfl (HO4.old HX5) rfl HU5.isB (by simp; omega) (HY4.trans HX5).size fun v5 y5 HO5 hg5 _ => wl_v (aV (v := v5) rfl) <| wl_end ?_
  have HY5 := grown2 (HY4.trans HX5) (HO4.old HX5) hg5
  refine w_sreg (wl_v (mV (v := v5) rfl) <| wl_v (ex_fld fld27_5 rfl) <| wl_v (ex_load1 Try.underlying3 rfl ((hB.old HY5).cell rfl)) <| wl_c (ec_fn en33) (R3_Num t.f t6 y5) ?_)
  rintro u6 x6 ⟨HU6, HX6⟩
  refine wl_appV rfl (HO5.old HX6) rfl HU6.isB (by simp; omega) (HY5.trans HX6).size fun v6 y6 HO6 hg6 _ => wl_v (aV (v := v6) rfl) <| wl_end ?_
  have HY6 := grown2 (HY5.trans HX6) (HO5.old HX6) hg6
  refine w_ret (end1 rfl ⟨_, rfl, ?_, hD.trans HY6⟩)
  have : t.bytes = [] ++ putv t.a ++ putv t.b ++ putv t.c ++ putv t.d ++ putv t.e ++ putv t.f := by simp [Tok.bytes]
  rw [this]
  exact HO6.base (by omega)
/-! ### What opens -/
def n1 (c : List UInt8) := numV c 0 0 2147483648
def n2 (c : List UInt8) := numV c (n1 c).2.1 (n1 c).2.2 2147483648
def n3 (c : List UInt8) := numV c (n2 c).2.1 (n2 c).2.2 4095
def n4 (c : List UInt8) := numV c (n3 c).2.1 (n3 c).2.2 1099511627776
def n5 (c : List UInt8) := numV c (n4 c).2.1 (n4 c).2.2 1099511627776
def n6 (c : List UInt8) := numV c (n5 c).2.1 (n5 c).2.2 1048576
def n7 (c : List UInt8) := bytesV c (n6 c).2.1 (n6 c).2.2 32
def tokOf (c : List UInt8) : Tok := ⟨(n1 c).1, (n2 c).1, (n3 c).1, (n4 c).1, (n5 c).1, (n6 c).1⟩
def doneOf (c : List UInt8) : Nat := doneV c (n7 c).2.1 (n7 c).2.2
def Tok.zero : Tok := ⟨0, 0, 0, 0, 0, 0⟩
def openV (b : List UInt8) : Tok × List UInt8 × Nat :=
  if (wholeF 2 b).2 ≠ 0 then (Tok.zero, [], (wholeF 2 b).2)
  else if doneOf (wholeF 2 b).1 ≠ 0 then (Tok.zero, [], doneOf (wholeF 2 b).1)
  else if ¬ (tokOf (wholeF 2 b).1).may ∨ (n7 (wholeF 2 b).1).1.length ≠ 32 then (Tok.zero, [], 2)
  else (tokOf (wholeF 2 b).1, (n7 (wholeF 2 b).1).1, 0)
/-- The readers' contracts, the results named. -/
theorem rNumber (g : Nat) (c : List UInt8) (p bad most : Nat) (r : Nat × Nat × Nat) (hrr : r = numV c p bad most) (w : World) (hr : RdP w g c p bad) :
    Calls Try.prog 42 #[.pointer (some ⟨g, 0, none⟩), .int .i64 (most : Int)] w fun e w' => ∃ v, e = .returned v ∧ v = .int .i64 (r.1 : Int) ∧ RdP w' g c r.2.1 r.2.2 ∧ Upd1 g w w' := by
  subst hrr; exact field_Number g c p bad most w hr
theorem rBytes (g : Nat) (c : List UInt8) (p bad most : Nat) (hm : most ≤ 140737488355328) (r : List UInt8 × Nat × Nat) (hrr : r = bytesV c p bad most) (w : World) (hr : RdP w g c p bad) :
    Calls Try.prog 43 #[.pointer (some ⟨g, 0, none⟩), .int .i64 (most : Int)] w fun e w' => ∃ v, e = .returned v ∧ IsB w' v r.1 ∧ RdP w' g c r.2.1 r.2.2 ∧ Upd1 g w w' := by
  subst hrr; exact field_Bytes g c p bad most hm w hr
theorem rDone (g : Nat) (c : List UInt8) (p bad d : Nat) (hd : d = doneV c p bad) (w : World) (hr : RdP w g c p bad) :
    Calls Try.prog 44 #[.pointer (some ⟨g, 0, none⟩)] w fun e w' => ∃ v, e = .returned v ∧ v = .int .i64 (d : Int) ∧ Old w w' := by
  subst hd; exact field_Done g c p bad w hr
/-- The three results of Open. -/
def OpenR (w w' : World) (v : Value) (b : List UInt8) : Prop := ∃ u, v = .tuple #[(openV b).1.v, u, .int .i64 ((openV b).2.2 : Int)] ∧ IsB w' u (openV b).2.1 ∧ Old w w'
theorem token_Open (b : List UInt8) (v : Value) (w : World) (hv : IsB w v b) :
    Calls Try.prog 24 #[v] w fun e w' => ∃ v, e = .returned v ∧ OpenR w w' v b := by
  refine enter (l := [_]) 51 Try.func24 rfl rfl (by simp) ?_
  have hD : Old w (w.alloc (.cells Tok.zero.cs 27)) := (Old.refl w).alloc _
  have hB := Box.new w 27 Tok.zero.cs
  refine w_sreg (wl_v (ex_alloc inf27) <| wl_v (aS rfl) <| wl_v (aI rfl) <| wl_end ?_)
  have hgw : w.heap.size ≤ w.heap.size := Nat.le_refl _
  generalize hg : w.heap.size = g at hB
  have hz : w.alloc (.cells (Value.agg #[.int .i64 0, .int .i64 0, .int .i64 0, .int .i64 0, .int .i64 0, .int .i64 0]).cells 27) = w.alloc (.cells Tok.zero.cs 27) := rfl
  rw [hz]
  generalize w.alloc (.cells Tok.zero.cs 27) = w1 at *
  refine w_sreg (wl_v (mV (v := v) rfl) <| wl_c (ec_fn en40) (frame_Whole 2 b v w1 (hv.old hD)) ?_)
  rintro _ w2 ⟨u, rfl, hu, HB2⟩
  have hA2 := hD.trans HB2
  have hB2 := hB.old HB2
  refine wl_v (mT rfl) <| wl_v (ex_extract rfl rfl) <| wl_v (ex_extract rfl rfl) <| wl_v (aV (v := u) rfl) <| wl_v (aI rfl) <| wl_end ?_
  have hO : openV b = if (wholeF 2 b).2 ≠ 0 then (Tok.zero, [], (wholeF 2 b).2)
      else if doneOf (wholeF 2 b).1 ≠ 0 then (Tok.zero, [], doneOf (wholeF 2 b).1)
      else if ¬ (tokOf (wholeF 2 b).1).may ∨ (n7 (wholeF 2 b).1).1.length ≠ 32 then (Tok.zero, [], 2)
      else (tokOf (wholeF 2 b).1, (n7 (wholeF 2 b).1).1, 0) := rfl
  generalize (wholeF 2 b).1 = c at *
  generalize (wholeF 2 b).2 = er at *
  refine w_seq ?_
  refine w_sreg (wl_v (mI rfl) <| wl_v (ex_neq rfl rfl) <| wl_end ?_)
  refine w_ifn rfl (fun h2 => ?_) (fun h2 => ?_)
  · rw [if_pos (by omega)] at hO
    refine w_sreg (wl_v (ex_build Tok.zero.cs (by kernel_rfl)) <| wl_v (mI rfl) <| wl_stL (cs' := Tok.zero.cs) inf27 rfl rfl rfl rfl hB2 rfl fun w3 hB3 hU3 => wl_v (aS rfl) <| wl_v (aI rfl) <| wl_end ?_)
    refine w_ret (ret_then (end3A rfl Try.underlying27 rfl inf27 rfl hB3 rfl ⟨_, rfl, .slice none 0 0, ?_, ?_, hU3.old hA2 (by omega)⟩))
    · rw [hO]; rfl
    · rw [hO]; exact IsB.nil _
  refine w_skip (then_k ?_)
  rw [if_neg (by omega)] at hO
  refine w_sreg (wl_v (mV (v := u) rfl) <| wl_c (ec_fn en41) (field_Read c u w2 hu) ?_)
  rintro _ w3 ⟨rfl, hr3, HB3⟩
  have hlt := hB2.lt
  have hA3 := hA2.trans HB3
  have hB3 := hB2.old HB3
  have hle2 := hA2.size
  refine wl_v (aP rfl) <| wl_end ?_
  generalize hh : w2.heap.size = h at *
  refine w_sreg (wl_v (mP rfl) <| wl_c (ec_fn en42) (rNumber h c 0 0 2147483648 (n1 c) rfl w3 hr3) ?_)
  rintro _ x1 ⟨rfl, hr1, hU1⟩
  refine wl_v (mP rfl) <| wl_c (ec_fn en42) (rNumber h c (n1 c).2.1 (n1 c).2.2 2147483648 (n2 c) rfl x1 hr1) ?_
  rintro _ x2 ⟨rfl, hr2, hU2⟩
  refine wl_v (mP rfl) <| wl_c (ec_fn en42) (rNumber h c (n2 c).2.1 (n2 c).2.2 4095 (n3 c) rfl x2 hr2) ?_
  rintro _ x3 ⟨rfl, hr3, hU3⟩
  refine wl_v (mP rfl) <| wl_c (ec_fn en42) (rNumber h c (n3 c).2.1 (n3 c).2.2 1099511627776 (n4 c) rfl x3 hr3) ?_
  rintro _ x4 ⟨rfl, hr4, hU4⟩
  refine wl_v (mP rfl) <| wl_c (ec_fn en42) (rNumber h c (n4 c).2.1 (n4 c).2.2 1099511627776 (n5 c) rfl x4 hr4) ?_
  rintro _ x5 ⟨rfl, hr5, hU5⟩
  refine wl_v (mP rfl) <| wl_c (ec_fn en42) (rNumber h c (n5 c).2.1 (n5 c).2.2 1048576 (n6 c) rfl x5 hr5) ?_
  rintro _ x6 ⟨rfl, hr6, hU6⟩
  have hUU := hU1.trans (hU2.trans (hU3.trans (hU4.trans (hU5.trans hU6))))
  have hA6 := hUU.old hA3 (by omega)
  have hB6 := hB3.upd hUU (by omega)
  refine wl_v (ex_build (tokOf c).cs (by kernel_rfl)) <| wl_stL (cs' := (tokOf c).cs) inf27 rfl rfl rfl rfl hB6 rfl fun x7 hB7 hU7 => wl_end ?_
  have hr7 := hr6.upd (by omega) hB6 rfl hU7
  have hA7 := hU7.old hA6 (by omega)
  refine w_sreg (wl_v (mP rfl) <| wl_c (ec_fn en43) (rBytes h c (n6 c).2.1 (n6 c).2.2 32 (by decide) (n7 c) rfl x7 hr7) ?_)
  rintro v8 x8 ⟨hv8, hr8, hU8⟩
  have hA8 := hU8.old hA7 (by omega)
  have hB8 := hB7.upd hU8 (by omega)
  refine wl_v (aV (v := v8) rfl) <| wl_end ?_
  refine w_seq ?_
  refine w_sreg (wl_v (mP rfl) <| wl_c (ec_fn en44) (rDone h c (n7 c).2.1 (n7 c).2.2 (doneOf c) rfl x8 hr8) ?_)
  rintro _ x9 ⟨rfl, HB9⟩
  have hA9 := hA8.trans HB9
  have hB9 := hB8.old HB9
  have hv9 := hv8.old HB9
  refine wl_v (aI rfl) <| wl_end ?_
  generalize doneOf c = dn at *
  refine w_sreg (wl_v (mI rfl) <| wl_v (ex_neq rfl rfl) <| wl_end ?_)
  refine w_ifn rfl (fun h3 => ?_) (fun h3 => ?_)
  · rw [if_pos (by omega)] at hO
    refine w_sreg (wl_v (ex_build Tok.zero.cs (by kernel_rfl)) <| wl_v (mI rfl) <| wl_stL (cs' := Tok.zero.cs) inf27 rfl rfl rfl rfl hB9 rfl fun w3 hB3 hU3 => wl_v (aS rfl) <| wl_v (aI rfl) <| wl_end ?_)
    refine w_ret (ret_then (end3A rfl Try.underlying27 rfl inf27 rfl hB3 rfl ⟨_, rfl, .slice none 0 0, ?_, ?_, hU3.old hA9 (by omega)⟩))
    · rw [hO]; rfl
    · rw [hO]; exact IsB.nil _
  refine w_skip (then_k ?_)
  rw [if_neg (by omega)] at hO
  refine w_seq ?_
  refine w_sreg (wl_v (ex_ldA Try.underlying27 rfl inf27 rfl hB9 rfl) <| wl_c (ec_fn en45) (token_May (tokOf c) x9) ?_)
  rintro _ x10 ⟨rfl, HB10⟩
  have hA10 := hA9.trans HB10
  have hB10 := hB9.old HB10
  have hv10 := hv9.old HB10
  refine wl_v (ex_not rfl) <| wl_v (mB rfl) <| wl_or 3 3 [44, 45, 46] rfl rfl rfl rfl (fun hp => wl_gy rfl (congrArg Value.bool hp) <| wl_v (mV (v := v8) rfl) <| wl_gy rfl (congrArg Value.bool hp) <| wl_v (ex_lenB Try.underlying23 rfl hv10) <| wl_gy rfl (congrArg Value.bool hp) <| wl_v (ex_neq rfl rfl) <| wl_nil (amp_end (ag3 rfl rfl rfl) rfl rfl)) fun _ => wl_end ?_
  refine w_if rfl (fun h4 => ?_) (fun h4 => ?_)
  · have h4' : ¬ (tokOf c).may ∨ (n7 c).1.length ≠ 32 := by
      simp only [Bool.or_eq_true, Bool.not_eq_true', decide_eq_false_iff_not] at h4
      rcases h4 with h4 | h4
      · exact .inl h4
      · exact .inr (by omega)
    rw [if_pos h4'] at hO
    refine w_sreg (wl_v (ex_build Tok.zero.cs (by kernel_rfl)) <| wl_stL (cs' := Tok.zero.cs) inf27 rfl rfl rfl rfl hB10 rfl fun w3 hB3 hU3 => wl_v (aS rfl) <| wl_v (aI rfl) <| wl_end ?_)
    refine w_ret (ret_then (end3A rfl Try.underlying27 rfl inf27 rfl hB3 rfl ⟨_, rfl, .slice none 0 0, ?_, ?_, hU3.old hA10 (by omega)⟩))
    · rw [hO]; rfl
    · rw [hO]; exact IsB.nil _
  have h4' : ¬ (¬ (tokOf c).may ∨ (n7 c).1.length ≠ 32) := by
    simp only [Bool.or_eq_false_iff, Bool.not_eq_false', decide_eq_true_eq] at h4
    exact fun h => h.elim (fun h => h h4.1) (fun h => h (by omega))
  rw [if_neg h4'] at hO
  refine w_skip (then_k ?_)
  refine w_sreg (wl_v (ex_ldA Try.underlying27 rfl inf27 rfl hB10 rfl) <| wl_v (mV (v := v8) rfl) <| wl_stL (cs' := (tokOf c).cs) inf27 rfl rfl rfl rfl hB10 rfl fun w3 hB3 hU3 => wl_v (aV (v := v8) rfl) <| wl_v (aI rfl) <| wl_end ?_)
  refine w_ret (end3A rfl Try.underlying27 rfl inf27 rfl hB3 rfl ⟨_, rfl, v8, ?_, ?_, hU3.old hA10 (by omega)⟩)
  · rw [hO]
    exact congrArg (fun u => Value.tuple #[.agg (tokOf c).cs, u, .int .i64 0]) (show _ = v8 from rfl)
  · rw [hO]; dsimp only; exact hv10.upd hB10 (by simp [noU8, Tok.cs]) hU3
end Go.Proofs.Ytcceeigkgklkoaa
