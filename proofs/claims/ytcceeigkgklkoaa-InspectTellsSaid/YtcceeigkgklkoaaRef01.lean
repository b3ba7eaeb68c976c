/- viaticumref01, sha.Same, slices.Clone, bytes.Equal: what they return, said of lists of bytes. -/
import Derived.Test.YtcceeigkgklkoaaVarint
import Derived.Test.YtcceeigkgklkoaaOp2
import Derived.Laws.BitsAllLaws
namespace Go.Proofs.Ytcceeigkgklkoaa
open Go.RowKit

theorem bF {p : Prop} [Decidable p] (h : ¬ p) : Value.bool false = .bool (decide p) := (bool_f h).symm
theorem bT {p : Prop} [Decidable p] (h : p) : Value.bool true = .bool (decide p) := (bool_t h).symm
theorem R1_Put (n : Nat) (hn : n < 18446744073709551616) (w : World) :
    Calls Try.prog 30 #[.int .u64 (n : Int)] w fun e w' => ∃ v, e = .returned v ∧ OwnB w.heap.size w' v (putv n) ∧ Old w w' := by
  refine enter (l := [_]) 20 Try.func30 rfl rfl (by simp) ?_
  refine w_sreg (wl_v (aS rfl) <| wl_end ?_)
  refine w_sreg (wl_v (aS rfl) <| wl_end ?_)
  refine w_seq ?_
  refine w_block ?_
  refine w_loop (fun k f w' => ∃ (pre : List UInt8) (v : Value), f 0 = .int .u64 (k : Int) ∧ f 3 = v ∧ k < 18446744073709551616 ∧ pre ++ putv k = putv n ∧ OwnB w.heap.size w' v pre ∧ Old w w') n ?_ ?_
  · exact ⟨[], _, rfl, rfl, hn, rfl, OwnB.nil _ _, Old.refl _⟩
  rintro m f w' ⟨pre, v, h0, h3, hm, hpre, HO, HB⟩
  obtain ⟨f, rfl⟩ := xp2 h0 h3
  have hlen : pre.length ≤ 10 := by
    have h1 := congrArg List.length hpre
    have h2 := putv_len10 hn
    simp only [List.length_append] at h1
    omega
  refine w_seq ?_
  refine w_sreg (wl_v (mI rfl) <| wl_v (ex_geq rfl rfl) <| wl_end ?_)
  refine w_ifx rfl (fun h1 => w_exit (exit_then (exit_then (exit_hit (then_k ?_))))) (fun h1 => w_skip (then_k ?_))
  · have h1' : ¬ 127 < m := by omega
    refine w_sreg (wl_v (mV (v := v) rfl) <| wl_v (mI rfl) <| wl_v (ex_conv Try.underlying71 Try.underlying5 rfl) <| wl_v (ex_box1 Try.underlying23 inf5 rfl rfl) <|
      wl_app1 (UInt8.ofNat m) (u8w m (by omega)) rfl HO rfl (by omega) HB.size fun v1 w1 HO1 hg1 hat1 => wl_v (aV (v := v1) rfl) <| wl_end ?_)
    refine w_ret (end1 rfl ⟨_, rfl, ?_, HB.grown hg1 HO.ge⟩)
    rw [← hpre, putv_last h1']; exact HO1
  have h1' : 127 < m := by omega
  refine w_block ?_
  refine w_sreg (wl_v (mV (v := v) rfl) <| wl_v (mI rfl) <| wl_v (ex_remN (q := 128) rfl rfl (by decide)) <| wl_v (ex_addW (c := ((m % 128 + 128 : Nat) : Int)) rfl rfl (by rw [show (128 : Int) + ((m % 128 : Nat) : Int) = ((m % 128 + 128 : Nat) : Int) from by omega]; exact u64id (by omega))) <| wl_v (ex_conv Try.underlying71 Try.underlying5 rfl) <| wl_v (ex_box1 Try.underlying23 inf5 rfl rfl) <|
    wl_app1 (UInt8.ofNat (m % 128 + 128)) (u8w _ (by omega)) rfl HO rfl (by omega) HB.size fun v1 w1 HO1 hg1 hat1 => wl_v (aV (v := v1) rfl) <| wl_end ?_)
  refine w_reg (wl_v (mI rfl) <| wl_v (ex_quoN (q := 128) rfl rfl (by decide) (u64id (by omega))) <| wl_v (aI rfl) <| wl_nil (norm_block (round_end (m / 128) (by omega) ⟨pre ++ [UInt8.ofNat (m % 128 + 128)], v1, rfl, rfl, by omega, ?_, HO1, HB.grown hg1 HO.ge⟩)))
  rw [← hpre, putv_more h1', List.append_assoc]; rfl

theorem scale_fits {b i : Nat} (hi : i ≤ 9) (hbad : ¬ (i = 9 ∧ 1 < b)) : b % 128 * 128 ^ i < 18446744073709551616 := by
  by_cases h9 : i = 9
  · subst h9
    have : b % 128 ≤ 1 := by omega
    calc b % 128 * 128 ^ 9 ≤ 1 * 128 ^ 9 := Nat.mul_le_mul_right _ this
      _ < _ := by decide
  · have hp : (128 : Nat) ^ i ≤ 128 ^ 8 := Nat.pow_le_pow_right (by omega) (by omega)
    calc b % 128 * 128 ^ i ≤ 127 * 128 ^ 8 := Nat.mul_le_mul (by omega) hp
      _ < _ := by decide
theorem scale_sum {b i acc : Nat} (hi : i ≤ 9) (hbad : ¬ (i = 9 ∧ 1 < b)) (hacc : acc < 128 ^ i) : acc + b % 128 * 128 ^ i < 18446744073709551616 := by
  by_cases h9 : i = 9
  · subst h9
    have : b % 128 ≤ 1 := by omega
    have := Nat.mul_le_mul_right (128 ^ 9) this
    have e : (128 : Nat) ^ 9 = 9223372036854775808 := by decide
    rw [e] at *
    omega
  · have hp : (128 : Nat) ^ (i + 1) ≤ 128 ^ 9 := Nat.pow_le_pow_right (by omega) (by omega)
    have := Nat.mul_le_mul_right (128 ^ i) (show b % 128 ≤ 127 by omega)
    rw [Nat.pow_succ] at hp
    have e : (128 : Nat) ^ 9 = 9223372036854775808 := by decide
    rw [e] at hp
    omega

theorem R1_Take (l : List UInt8) (v : Value) (w : World) (hv : IsB w v l) :
    Calls Try.prog 52 #[v] w fun e w' => ∃ v, e = .returned v ∧ v = .tuple #[.int .u64 (takev l).1, .int .i64 (takev l).2.1, .int .i64 (takev l).2.2] ∧ w' = w := by
  obtain ⟨A, c, rfl, hc, hc2, HR⟩ := hv
  refine enter (l := [_]) 45 Try.func52 rfl rfl (by simp) ?_
  refine w_sreg (wl_v (aI rfl) <| wl_v (aI rfl) <| wl_v (aI rfl) <| wl_end ?_)
  refine w_sreg (wl_v (aI rfl) <| wl_end ?_)
  refine w_sreg (wl_v (aI rfl) <| wl_end ?_)
  refine w_seq ?_
  refine w_sreg (wl_v (aI rfl) <| wl_end ?_)
  refine w_block ?_
  refine w_loop (fun k f w' => ∃ (i acc : Nat), f 0 = .slice A l.length c ∧ f 5 = .int .u64 (acc : Int) ∧ f 6 = .int .u64 ((128 ^ i : Nat) : Int) ∧ f 7 = .int .i64 (i : Int) ∧ k = l.length - i ∧ w' = w ∧ i ≤ 9 ∧ i ≤ l.length ∧ acc < 128 ^ i ∧ takeGo (l.drop i) i acc = takev l) l.length ?_ ?_
  · exact ⟨0, 0, rfl, rfl, rfl, rfl, rfl, rfl, by omega, by omega, by simp, rfl⟩
  rintro k f w' ⟨i, acc, h0, h5, h6, h7, rfl, rfl, hi, hil, hacc, hgo⟩
  obtain ⟨f, rfl⟩ := xp4 h0 h5 h6 h7
  refine w_seq ?_
  refine w_sreg (wl_v (mI rfl) <| wl_v (mS rfl) <| wl_v (ex_len Try.underlying23 rfl) <| wl_v (ex_lss rfl rfl) <| wl_end ?_)
  refine w_ifx rfl (fun h1 => w_exit (exit_then (exit_then (exit_hit (then_k ?_))))) (fun h1 => w_skip (then_k ?_))
  · refine w_sreg (wl_v (aI rfl) <| wl_v (aI rfl) <| wl_v (aI rfl) <| wl_end ?_)
    refine w_ret (end3 rfl ⟨_, rfl, ?_, rfl⟩)
    rw [← hgo, List.drop_eq_nil_of_le (by omega)]; rfl
  have hlt : i < l.length := by omega
  obtain ⟨ad, rfl, hcell⟩ := rdB HR hlt
  have hb : l[i].toNat < 256 := l[i].toNat_lt
  have hgo' : takev l = if i = 9 ∧ 1 < l[i].toNat then (0, 0, 11) else if 127 < l[i].toNat then takeGo (l.drop (i + 1)) (i + 1) (acc + l[i].toNat % 128 * 128 ^ i) else if l[i].toNat = 0 ∧ 0 < i then (0, 0, 11) else (acc + l[i].toNat % 128 * 128 ^ i, i + 1, 0) := by
    rw [← hgo, List.drop_eq_getElem_cons hlt, takeGo]
  clear hgo
  generalize l[i].toNat = b at *
  refine w_seq ?_
  refine w_block ?_
  refine w_sreg (wl_v (mS rfl) <| wl_v (mI rfl) <| wl_v (ex_idx1 Try.underlying23 inf5 rfl rfl rfl (by omega)) <| wl_v (ex_load1 Try.underlying5 rfl hcell) <| wl_v (ex_convW Try.underlying5 Try.underlying71 rfl (u64id (by omega))) <| wl_v (aI rfl) <| wl_end ?_)
  refine w_seq ?_
  refine w_sreg (wl_v (mI rfl) <| wl_v (ex_eql rfl rfl) <| wl_v (mB rfl) <| wl_and 2 2 [23, 24] rfl rfl rfl rfl (fun hp => wl_gy rfl (congrArg Value.bool hp) <| wl_v (mI rfl) <| wl_gy rfl (congrArg Value.bool hp) <| wl_v (ex_gtr rfl rfl) <| wl_nil (amp_end (ag2 rfl rfl) rfl rfl)) fun _ => wl_end ?_)
  refine w_ifa rfl (fun h2 => ?_) (fun h2 => ?_)
  · refine w_sreg (wl_v (aI rfl) <| wl_v (aI rfl) <| wl_v (aI rfl) <| wl_end ?_)
    refine w_ret (ret_then (ret_block (ret_then (ret_then (ret_block (ret_then (end3 rfl ⟨_, rfl, ?_, rfl⟩)))))))
    rw [hgo', if_pos (by omega)]; rfl
  refine w_skip (then_k ?_)
  have h2 : ¬ (i = 9 ∧ 1 < b) := by omega
  refine w_sreg (wl_v (mI rfl) <| wl_v (mI rfl) <| wl_v (ex_remN (q := 128) rfl rfl (by decide)) <| wl_v (mI rfl) <| wl_v (ex_mulW (c := ((b % 128 * 128 ^ i : Nat) : Int)) rfl rfl (by rw [← Int.natCast_mul]; exact u64id (scale_fits hi h2))) <| wl_v (ex_addW (c := ((acc + b % 128 * 128 ^ i : Nat) : Int)) rfl rfl (by rw [← Int.natCast_add]; exact u64id (scale_sum hi h2 hacc))) <| wl_v (aI rfl) <| wl_end ?_)
  refine w_seq ?_
  refine w_sreg (wl_v (mI rfl) <| wl_v (ex_lss rfl rfl) <| wl_end ?_)
  refine w_ifp rfl (fun h3 => ?_) (fun h3 => ?_)
  · refine w_seq ?_
    refine w_sreg (wl_v (mI rfl) <| wl_v (ex_eql rfl rfl) <| wl_v (mB rfl) <| wl_and 2 2 [37, 38] rfl rfl rfl rfl (fun hp => wl_gy rfl (congrArg Value.bool hp) <| wl_v (mI rfl) <| wl_gy rfl (congrArg Value.bool hp) <| wl_v (ex_gtr rfl rfl) <| wl_nil (amp_end (ag2 rfl rfl) rfl rfl)) fun _ => wl_end ?_)
    refine w_ifa rfl (fun h4 => ?_) (fun h4 => ?_)
    · refine w_sreg (wl_v (aI rfl) <| wl_v (aI rfl) <| wl_v (aI rfl) <| wl_end ?_)
      refine w_ret (ret_then (ret_then (ret_block (ret_then (ret_then (ret_block (ret_then (end3 rfl ⟨_, rfl, ?_, rfl⟩))))))))
      rw [hgo', if_neg h2, if_neg (by omega), if_pos (by omega)]; rfl
    refine w_skip (then_k ?_)
    refine w_sreg (wl_v (mI rfl) <| wl_v (mI rfl) <| wl_v (ex_add64 rfl rfl (by omega) (by omega)) <| wl_v (aI rfl) <| wl_v (aI rfl) <| wl_v (aI rfl) <| wl_end ?_)
    refine w_ret (ret_then (ret_block (ret_then (ret_then (ret_block (ret_then (end3 rfl ⟨_, rfl, ?_, rfl⟩)))))))
    rw [hgo', if_neg h2, if_neg (by omega), if_neg (by omega)]; rfl
  refine w_skip (then_k ?_)
  have hi9 : i + 1 ≤ 9 := by
    rcases Nat.lt_or_ge i 9 with h | h
    · omega
    · exfalso; omega
  refine w_reg (wl_v (mI rfl) <| wl_v (ex_mulW (c := ((128 ^ (i + 1) : Nat) : Int)) rfl rfl (by
      rw [Nat.pow_succ]
      have e : ((128 ^ i : Nat) : Int) * 128 = ((128 ^ i * 128 : Nat) : Int) := by push_cast; rfl
      rw [e, ← Nat.pow_succ]
      exact u64id (Nat.lt_of_le_of_lt (Nat.pow_le_pow_right (by omega) hi9) (by decide)))) <| wl_v (aI rfl) <| wl_nil (norm_block (then_k ?_)))
  refine w_reg (wl_v (mI rfl) <| wl_v (ex_add64 rfl rfl (by omega) (by omega)) <| wl_v (aI rfl) <| wl_nil (round_end (l.length - (i + 1)) (by omega) ⟨i + 1, _, rfl, rfl, rfl, rfl, rfl, rfl, hi9, hlt, ?_, ?_⟩))
  · rw [Nat.pow_succ]
    have := Nat.mul_le_mul_right (128 ^ i) (show b % 128 ≤ 127 by omega)
    omega
  · rw [hgo', if_neg h2, if_pos (by omega)]

/-- Two lists that agree so far. -/
theorem same_step {l k : List UInt8} {i : Nat} (hl : l.length = k.length) (h1 : l.take i = k.take i) (hi : i < l.length) (he : l[i]'hi = k[i]'(hl ▸ hi)) : l.take (i + 1) = k.take (i + 1) := by
  rw [List.take_succ_eq_append_getElem hi, List.take_succ_eq_append_getElem (hl ▸ hi), h1, he]
theorem R1_Same (l k : List UInt8) (v u : Value) (w : World) (hv : IsB w v l) (hu : IsB w u k) :
    Calls Try.prog 7 #[v, u] w fun e w' => ∃ v, e = .returned v ∧ v = .bool (decide (l = k)) ∧ Old w w' := by
  obtain ⟨A, c, rfl, hc, hc2, HR⟩ := hv
  obtain ⟨B, c', rfl, hc', hc2', HR'⟩ := hu
  refine enter (l := [_, _]) 26 Try.func7 rfl rfl (by simp) ?_
  refine w_sreg (wl_v (aB rfl) <| wl_end ?_)
  refine w_seq ?_
  refine w_sreg (wl_v (mS rfl) <| wl_v (ex_len Try.underlying23 rfl) <| wl_v (mS rfl) <| wl_v (ex_len Try.underlying23 rfl) <| wl_v (ex_neq rfl rfl) <| wl_end ?_)
  refine w_ifn rfl (fun h1 => ?_) (fun h1 => ?_)
  · refine w_sreg (wl_v (aB rfl) <| wl_end ?_)
    refine w_ret (ret_then (end1 rfl ⟨_, rfl, ?_, Old.refl _⟩))
    exact bF (by rintro rfl; exact h1 rfl)
  refine w_skip (then_k ?_)
  have hl : l.length = k.length := by omega
  refine w_seq ?_
  refine w_sreg (wl_v (aI rfl) <| wl_end ?_)
  refine w_block ?_
  refine w_loop (fun m f w' => ∃ i : Nat, f 0 = .slice A l.length c ∧ f 1 = .slice B k.length c' ∧ f 5 = .int .i64 (i : Int) ∧ m = l.length - i ∧ Old w w' ∧ i ≤ l.length ∧ l.take i = k.take i) l.length ?_ ?_
  · exact ⟨0, rfl, rfl, rfl, rfl, Old.refl _, by omega, rfl⟩
  rintro m f w' ⟨i, h0, h1', h5, rfl, HB, hil, hsame⟩
  obtain ⟨f, rfl⟩ := xp3 h0 h1' h5
  refine w_seq ?_
  refine w_sreg (wl_v (mI rfl) <| wl_v (mS rfl) <| wl_v (ex_len Try.underlying23 rfl) <| wl_v (ex_lss rfl rfl) <| wl_end ?_)
  refine w_ifx rfl (fun h2 => w_exit (exit_then (exit_then (exit_hit (then_k ?_))))) (fun h2 => w_skip (then_k ?_))
  · refine w_sreg (wl_v (aB rfl) <| wl_end ?_)
    refine w_ret (end1 rfl ⟨_, rfl, ?_, HB⟩)
    have he : i = l.length := by omega
    subst he
    rw [List.take_length, hl, List.take_length] at hsame
    exact bT hsame
  have hlt : i < l.length := by omega
  have hlt' : i < k.length := by omega
  obtain ⟨ad, rfl, hcell⟩ := rdB HR hlt
  obtain ⟨ad', rfl, hcell'⟩ := rdB HR' hlt'
  refine w_seq ?_
  refine w_block ?_
  refine w_sdraw (fun W => W = w'.drew) [(0, true), (1, true), (2, true), (3, true), (4, true), (5, true), (6, true), (7, true), (8, true)] mixed (by decide +kernel) rfl ?_
  have hcell1 := HB.drew.cell hcell
  have hcell1' := HB.drew.cell hcell'
  refine wd_f rfl rfl (fun W hS => mS rfl) <| wd_f rfl rfl (fun W hS => mI rfl) <| wd_f rfl rfl (fun W hS => ex_idx1 Try.underlying23 inf5 rfl rfl rfl (by omega)) <| wd_f rfl rfl (fun W hS => ex_load1 Try.underlying5 rfl (hS ▸ hcell1)) <| wd_f rfl rfl (fun W hS => mS rfl) <| wd_f rfl rfl (fun W hS => mI rfl) <| wd_f rfl rfl (fun W hS => ex_idx1 Try.underlying23 inf5 rfl rfl rfl (by omega)) <| wd_f rfl rfl (fun W hS => ex_load1 Try.underlying5 rfl (hS ▸ hcell1')) <| wd_f rfl rfl (fun W hS => ex_neq rfl rfl) <| wd_nil ?_
  refine w_ifn rfl (fun h3 => ?_) (fun h3 => ?_)
  · refine w_sreg (wl_v (aB rfl) <| wl_end ?_)
    refine w_ret (ret_block (ret_then (ret_then (ret_block (ret_then (end1 rfl ⟨_, rfl, ?_, HB.drew⟩))))))
    exact bF (by rintro rfl; exact h3 rfl)
  refine w_skip (norm_block (then_k ?_))
  refine w_reg (wl_v (mI rfl) <| wl_v (ex_add64 rfl rfl (by omega) (by omega)) <| wl_v (aI rfl) <| wl_nil (round_end (l.length - (i + 1)) (by omega) ⟨i + 1, rfl, rfl, rfl, rfl, HB.drew, hlt, ?_⟩))
  refine same_step hl hsame hlt (UInt8.toNat_inj.1 (by omega))

theorem xor8 (a b : UInt8) : bits .xor .u8 (a.toNat : Int) (b.toNat : Int) = ((a.toNat ^^^ b.toNat : Nat) : Int) ∧ a.toNat ^^^ b.toNat < 256 ∧ (a.toNat ^^^ b.toNat = 0 ↔ a = b) := by
  have h1 : a.toNat < 256 := a.toNat_lt
  have h2 : b.toNat < 256 := b.toNat_lt
  refine ⟨u8_xor_nat _ _ h1 h2, Nat.xor_lt_two_pow (n := 8) h1 h2, ?_⟩
  constructor
  · intro h
    apply UInt8.toNat_inj.1
    have := congrArg (· ^^^ b.toNat) h
    simpa [Nat.xor_assoc] using this
  · rintro rfl; exact Nat.xor_self _
theorem sha_Same (l k : List UInt8) (v u : Value) (w : World) (hv : IsB w v l) (hu : IsB w u k) :
    Calls Try.prog 25 #[v, u] w fun e w' => ∃ v, e = .returned v ∧ v = .bool (decide (l = k)) ∧ w' = w := by
  obtain ⟨A, c, rfl, hc, hc2, HR⟩ := hv
  obtain ⟨B, c', rfl, hc', hc2', HR'⟩ := hu
  refine enter (l := [_, _]) 31 Try.func25 rfl rfl (by simp) ?_
  refine w_sreg (wl_v (aB rfl) <| wl_end ?_)
  refine w_seq ?_
  refine w_sreg (wl_v (mS rfl) <| wl_v (ex_len Try.underlying23 rfl) <| wl_v (mS rfl) <| wl_v (ex_len Try.underlying23 rfl) <| wl_v (ex_neq rfl rfl) <| wl_end ?_)
  refine w_ifn rfl (fun h1 => ?_) (fun h1 => ?_)
  · refine w_sreg (wl_v (aB rfl) <| wl_end ?_)
    refine w_ret (ret_then (end1 rfl ⟨_, rfl, ?_, rfl⟩))
    exact bF (by rintro rfl; exact h1 rfl)
  refine w_skip (then_k ?_)
  have hl : l.length = k.length := by omega
  refine w_sreg (wl_v (aI rfl) <| wl_end ?_)
  refine w_seq ?_
  refine w_sreg (wl_v (mS rfl) <| wl_v (ex_len Try.underlying23 rfl) <| wl_v (mI rfl) <| wl_end ?_)
  refine w_block ?_
  refine w_loop (fun m f w' => ∃ (i x : Nat), f 1 = .slice B k.length c' ∧ f 5 = .int .u8 (x : Int) ∧ f 13 = .slice A l.length c ∧ f 14 = .int .i64 (l.length : Int) ∧ f 15 = .int .i64 (i : Int) ∧ m = l.length - i ∧ w' = w ∧ i ≤ l.length ∧ x < 256 ∧ (x = 0 ↔ l.take i = k.take i)) l.length ?_ ?_
  · exact ⟨0, 0, rfl, rfl, rfl, rfl, rfl, rfl, rfl, by omega, by omega, by simp⟩
  rintro m f w' ⟨i, x, h1', h5, h13, h14, h15, rfl, rfl, hil, hx, hsame⟩
  obtain ⟨f, rfl⟩ := xp5 h1' h5 h13 h14 h15
  refine w_sreg (wl_v (ex_lss rfl rfl) <| wl_end ?_)
  refine w_seq (w_ifx rfl (fun h2 => w_exit (exit_then (exit_then (exit_hit (then_k ?_))))) (fun h2 => w_skip (then_k ?_)))
  · refine w_sreg (wl_v (mI rfl) <| wl_v (ex_eql rfl rfl) <| wl_v (aB rfl) <| wl_end ?_)
    refine w_ret (end1 rfl ⟨_, rfl, ?_, rfl⟩)
    have he : i = l.length := by omega
    subst he
    rw [List.take_length, hl, List.take_length] at hsame
    refine congrArg Value.bool (decide_eq_decide.2 ?_)
    rw [← hsame]; omega
  have hlt : i < l.length := by omega
  have hlt' : i < k.length := by omega
  obtain ⟨ad, rfl, hcell⟩ := rdB HR hlt
  obtain ⟨ad', rfl, hcell'⟩ := rdB HR' hlt'
  obtain ⟨hy, hy2, hy'⟩ := xor8 l[i] k[i]
  have hz := u8_or_nat x _ hx hy2
  refine w_seq ?_
  refine w_block ?_
  refine w_sreg (wl_v (mI rfl) <| wl_v (ex_idx1 Try.underlying23 inf5 rfl rfl rfl (by omega)) <| wl_v (ex_load1 Try.underlying5 rfl hcell) <| wl_v (aI rfl) <| wl_v (aI rfl) <| wl_end ?_)
  refine w_reg (wl_v (mI rfl) <| wl_v (mI rfl) <| wl_v (mS rfl) <| wl_v (mI rfl) <| wl_v (ex_idx1 Try.underlying23 inf5 rfl rfl rfl (by omega)) <| wl_v (ex_load1 Try.underlying5 rfl hcell') <| wl_v (ex_eq (ex_xor rfl rfl) (congrArg (Value.int .u8) hy)) <| wl_v (ex_eq (ex_or rfl rfl) (congrArg (Value.int .u8) hz)) <| wl_v (aI rfl) <| wl_nil (norm_block (then_k ?_)))
  refine w_reg (wl_v (ex_add64 rfl rfl (by omega) (by omega)) <| wl_v (mI rfl) <| wl_nil (round_end (l.length - (i + 1)) (by omega) ⟨i + 1, _, rfl, rfl, rfl, rfl, rfl, rfl, rfl, hlt, Nat.or_lt_two_pow (n := 8) hx hy2, ?_⟩))
  rw [Nat.or_eq_zero_iff, hsame, hy']
  constructor
  · rintro ⟨h1, h2⟩; exact same_step hl h1 hlt h2
  · intro h
    rw [List.take_succ_eq_append_getElem hlt, List.take_succ_eq_append_getElem hlt'] at h
    have := List.append_inj' h rfl
    exact ⟨this.1, by simpa using this.2⟩

theorem clone (l : List UInt8) (v : Value) (w : World) (hv : IsB w v l) (hlen : l.length ≤ 140737488355328) :
    Calls Try.prog 23 #[v] w fun e w' => ∃ v, e = .returned v ∧ OwnB w.heap.size w' v l ∧ Old w w' := by
  obtain ⟨A, c, rfl, hc, hc2, HR⟩ := hv
  refine enter (l := [_]) 8 Try.func23 rfl rfl (by simp) ?_
  refine w_sreg (wl_v (aS rfl) <| wl_end ?_)
  refine w_seq ?_
  refine w_sreg (wl_v (mS rfl) <| wl_v (ex_snil_eql Try.underlying23 rfl) <| wl_end ?_)
  refine w_if rfl (fun h1 => ?_) (fun h1 => ?_)
  · refine w_sreg (wl_v (aS rfl) <| wl_end ?_)
    refine w_ret (ret_then (end1 rfl ⟨_, rfl, ?_, Old.refl _⟩))
    have : l = [] := by
      cases l with
      | nil => rfl
      | cons a l => obtain ⟨ad, rfl, _⟩ := HR (by simp [bvs]); cases h1
    subst this
    exact OwnB.nil _ _
  refine w_skip (then_k ?_)
  have H0 : OwnB w.heap.size (w.alloc (.cells #[] 5)) (.slice (some ⟨w.heap.size, 0, none⟩) 0 0) [] := by
    refine ⟨rfl, .inr ⟨w.heap.size, 0, #[], rfl, Nat.le_refl _, Box.new _ _ _, by simp, by simp, by simp, by simp [bvs]⟩⟩
  refine w_sreg (wl_v (ex_build0 Try.underlying23 inf5) <| wl_v (mS rfl) <| wl_appB (l := []) (k := l) rfl H0 rfl (HR.alloc _) (by simpa using hlen) (by simp) fun v1 w1 HO1 hg1 hat1 => wl_v (aV (v := v1) rfl) <| wl_end ?_)
  refine w_ret (end1 rfl ⟨_, rfl, HO1, ?_⟩)
  exact ((Old.refl w).alloc _).grown hg1 (fun k hk => by
    have := H0.ge k hk; omega)

theorem bytes_Equal (l k : List UInt8) (v u : Value) (w : World) (hv : IsB w v l) (hu : IsB w u k) :
    Calls Try.prog 62 #[v, u] w fun e w' => ∃ v, e = .returned v ∧ v = .bool (decide (l = k)) ∧ w' = w := by
  obtain ⟨A, c, rfl, hc, hc2, HR⟩ := hv
  obtain ⟨B, c', rfl, hc', hc2', HR'⟩ := hu
  refine enter (l := [_, _]) 10 Try.func62 rfl rfl (by simp) ?_
  refine w_sreg (wl_v (aB rfl) <| wl_end ?_)
  refine w_sreg (wl_v (mS rfl) <| wl_v (ex_conv_str Try.underlying23 Try.underlying5 Try.underlying9 rfl HR) <| wl_v (mS rfl) <| wl_v (ex_conv_str Try.underlying23 Try.underlying5 Try.underlying9 rfl HR') <| wl_v (ex_eql_str rfl rfl) <| wl_v (aB rfl) <| wl_end ?_)
  refine w_ret (end1 rfl ⟨_, rfl, ?_, rfl⟩)
  refine congrArg Value.bool ?_
  rw [toList_mk, toList_mk]
  by_cases h : l = k <;> simp [h]
end Go.Proofs.Ytcceeigkgklkoaa
