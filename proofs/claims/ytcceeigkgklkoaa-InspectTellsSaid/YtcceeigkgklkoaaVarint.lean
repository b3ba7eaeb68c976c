/- varint: what Put and Take return, said of lists of bytes. -/
import Derived.Test.YtcceeigkgklkoaaMem
namespace Go.Proofs.Ytcceeigkgklkoaa
open Go.RowKit

/-- A number's bytes. -/
def putv (n : Nat) : List UInt8 := if h : 127 < n then UInt8.ofNat (n % 128 + 128) :: putv (n / 128) else [UInt8.ofNat n]
termination_by n
decreasing_by omega
theorem putv_more {n : Nat} (h : 127 < n) : putv n = UInt8.ofNat (n % 128 + 128) :: putv (n / 128) := by rw [putv, dif_pos h]
theorem putv_last {n : Nat} (h : ¬ 127 < n) : putv n = [UInt8.ofNat n] := by rw [putv, dif_neg h]

theorem or128' : ∀ a : Fin 256, bits .or .u8 (a.val : Int) 128 = ((UInt8.ofNat (a.val % 128 + 128)).toNat : Int) := by decide +kernel
theorem or128 (n : Nat) : bits .or .u8 ((n : Int) % 256) 128 = ((UInt8.ofNat (n % 128 + 128)).toNat : Int) := by
  have h := or128' ⟨n % 256, Nat.mod_lt _ (by omega)⟩
  simp only at h
  rw [show n % 256 % 128 = n % 128 from by omega] at h
  rw [← h]
  rfl
theorem putv_len : ∀ (k n : Nat), n < 128 ^ (k + 1) → (putv n).length ≤ k + 1
  | 0, n, h => by rw [putv_last (by omega)]; simp
  | k + 1, n, h => by
    by_cases h1 : 127 < n
    · rw [putv_more h1, List.length_cons]
      have := putv_len k (n / 128) (by rw [Nat.pow_succ] at h; omega)
      omega
    · rw [putv_last h1]; simp
theorem putv_len10 {n : Nat} (h : n < 18446744073709551616) : (putv n).length ≤ 10 := putv_len 9 n (Nat.lt_trans h (by decide))
theorem putv_pos (n : Nat) : 1 ≤ (putv n).length := by
  by_cases h : 127 < n
  · rw [putv_more h]; simp
  · rw [putv_last h]; simp

/-- The number that bytes begin with: the number, how many bytes, the error. -/
def takeGo : List UInt8 → Nat → Nat → Nat × Nat × Nat
  | [], _, _ => (0, 0, 10)
  | c :: r, i, acc => if i = 9 ∧ 1 < c.toNat then (0, 0, 11) else if 127 < c.toNat then takeGo r (i + 1) (acc + c.toNat % 128 * 128 ^ i) else if c.toNat = 0 ∧ 0 < i then (0, 0, 11) else (acc + c.toNat % 128 * 128 ^ i, i + 1, 0)
def takev (l : List UInt8) : Nat × Nat × Nat := takeGo l 0 0

theorem or128w (n : Nat) : bits .or .u8 (IntKind.u8.wrap (n : Int)) 128 = ((UInt8.ofNat (n % 128 + 128)).toNat : Int) := by
  rw [IntKind.wrap_u8]; exact or128 n
theorem u8w (n : Nat) (h : n < 256) : IntKind.u8.wrap (n : Int) = ((UInt8.ofNat n).toNat : Int) := by
  rw [IntKind.wrap_u8]; simp
theorem varint_Put (n : Nat) (hn : n < 18446744073709551616) (w : World) :
    Calls Try.prog 48 #[.int .u64 (n : Int)] w fun e w' => ∃ v, e = .returned v ∧ OwnB w.heap.size w' v (putv n) ∧ Old w w' := by
  refine enter (l := [_]) 19 Try.func48 rfl rfl (by simp) ?_
  refine w_sreg (wl_v (aS rfl) <| wl_end ?_)
  refine w_scope 0 (fun k f w' => ∃ (pre : List UInt8) (v : Value), f 0 = .int .u64 (k : Int) ∧ f 3 = v ∧ k < 18446744073709551616 ∧ pre ++ putv k = putv n ∧ OwnB w.heap.size w' v pre ∧ Old w w') rfl ?_ ?_
  · rintro m f w' ⟨pre, v, h0, h3, hm, hpre, HO, HB⟩
    obtain ⟨f, rfl⟩ := xp2 h0 h3
    have hlen : pre.length ≤ 10 := by
      have h1 := congrArg List.length hpre
      have h2 := putv_len10 hn
      simp only [List.length_append] at h1
      omega
    refine w_seq ?_
    refine w_sreg (wl_v (mI rfl) <| wl_v (ex_gtr rfl rfl) <| wl_end ?_)
    refine w_ifp rfl (fun h1 => ?_) (fun h1 => ?_)
    · have h1' : 127 < m := by omega
      refine w_sreg (wl_v (mV (v := v) rfl) <| wl_v (mI rfl) <| wl_v (ex_conv Try.underlying71 Try.underlying5 rfl) <| wl_v (ex_or rfl rfl) <| wl_v (ex_box1 Try.underlying23 inf5 rfl rfl) <|
        wl_app1 (UInt8.ofNat (m % 128 + 128)) (or128w m) rfl HO rfl (by omega) HB.size fun v1 w1 HO1 hg1 hat1 => wl_v (aV (v := v1) rfl) <| wl_end ?_)
      refine w_sreg (wl_v (mI rfl) <| wl_v (ex_shrN (c := 7) rfl rfl (by decide)) <| wl_v (aI rfl) <| wl_end ?_)
      refine w_goto (goto_then (goto_jump (m / 128) (by omega) ⟨pre ++ [UInt8.ofNat (m % 128 + 128)], v1, rfl, rfl, by omega, ?_, HO1, HB.grown hg1 HO.ge⟩))
      rw [← hpre, putv_more h1', List.append_assoc]; rfl
    refine w_skip (then_k ?_)
    have h1' : ¬ 127 < m := by omega
    refine w_sreg (wl_v (mV (v := v) rfl) <| wl_v (mI rfl) <| wl_v (ex_conv Try.underlying71 Try.underlying5 rfl) <| wl_v (ex_box1 Try.underlying23 inf5 rfl rfl) <|
        wl_app1 (UInt8.ofNat m) (u8w m (by omega)) rfl HO rfl (by omega) HB.size fun v1 w1 HO1 hg1 hat1 => wl_v (aV (v := v1) rfl) <| wl_end ?_)
    refine w_ret (ret_jump (end1 rfl ⟨_, rfl, ?_, HB.grown hg1 HO.ge⟩))
    rw [← hpre, putv_last h1']; exact HO1
  · intro hr
    refine w_sreg (wl_v (aS rfl) <| wl_end ?_)
    refine w_seq ?_
    refine w_label (then_k ?_)
    exact hr n _ _ ⟨[], _, rfl, rfl, hn, rfl, OwnB.nil _ _, Old.refl _⟩

theorem and127' : ∀ a : Fin 256, bits .and .u8 (a.val : Int) 127 = ((a.val % 128 : Nat) : Int) := by decide +kernel
theorem pow128 (i : Nat) : (2 : Nat) ^ (7 * i) = 128 ^ i := by rw [Nat.pow_mul]
theorem take_or {b i acc : Nat} (hb : b < 256) (hi : i ≤ 9) (hbad : ¬ (i = 9 ∧ 1 < b)) (hacc : acc < 128 ^ i) :
    bits BinOp.or IntKind.u64 (acc : Int) (IntKind.u64.wrap (IntKind.u64.wrap (bits BinOp.and IntKind.u8 (b : Int) 127) * 2 ^ (7 * i))) = ((acc + b % 128 * 128 ^ i : Nat) : Int) := by
  have h1 := and127' ⟨b, hb⟩
  simp only at h1
  rw [h1]
  have hx : b % 128 * 128 ^ i < 18446744073709551616 := by
    by_cases h9 : i = 9
    · subst h9
      have : b % 128 ≤ 1 := by omega
      calc b % 128 * 128 ^ 9 ≤ 1 * 128 ^ 9 := Nat.mul_le_mul_right _ this
        _ < _ := by decide
    · have hp : (128 : Nat) ^ i ≤ 128 ^ 8 := Nat.pow_le_pow_right (by omega) (by omega)
      calc b % 128 * 128 ^ i ≤ 127 * 128 ^ 8 := Nat.mul_le_mul (by omega) hp
        _ < _ := by decide
  have ha : acc < 18446744073709551616 := Nat.lt_of_lt_of_le hacc (Nat.le_trans (Nat.pow_le_pow_right (by omega) hi) (by decide))
  have e1 : IntKind.u64.wrap ((b % 128 : Nat) : Int) = ((b % 128 : Nat) : Int) := by
    have : IntKind.u64.wrap ((b % 128 : Nat) : Int) = ((b % 128 : Nat) : Int) % 18446744073709551616 := by simp [IntKind.wrap, IntKind.bits, IntKind.signed]
    omega
  rw [e1]
  have e2 : ((b % 128 : Nat) : Int) * 2 ^ (7 * i) = ((b % 128 * 128 ^ i : Nat) : Int) := by
    rw [← pow128]
    push_cast
    rfl
  rw [e2]
  have e3 : IntKind.u64.wrap ((b % 128 * 128 ^ i : Nat) : Int) = ((b % 128 * 128 ^ i : Nat) : Int) := by
    have : IntKind.u64.wrap ((b % 128 * 128 ^ i : Nat) : Int) = ((b % 128 * 128 ^ i : Nat) : Int) % 18446744073709551616 := by simp [IntKind.wrap, IntKind.bits, IntKind.signed]
    omega
  rw [e3, u64_or_nat _ _ ha hx, Nat.or_comm, nat_join (7 * i) _ _ (by rw [pow128]; exact Nat.mul_mod_left _ _) (by rw [pow128]; exact hacc), Nat.add_comm]

theorem take_or' {b i acc acc2 : Nat} (h : bits BinOp.or IntKind.u64 (acc : Int) (IntKind.u64.wrap (IntKind.u64.wrap (bits BinOp.and IntKind.u8 (b : Int) 127) * 2 ^ (7 * i))) = (acc2 : Int)) (hi : i ≤ 9) :
    Value.int .u64 (bits BinOp.or IntKind.u64 (acc : Int) (IntKind.u64.wrap (IntKind.u64.wrap (bits BinOp.and IntKind.u8 (b : Int) 127) * 2 ^ (min ((7 : Int) * (i : Int)).toNat IntKind.u64.bits)))) = .int .u64 (acc2 : Int) := by
  have e : min ((7 : Int) * (i : Int)).toNat IntKind.u64.bits = 7 * i := by simp [IntKind.bits]; omega
  rw [e, h]
theorem varint_Take (l : List UInt8) (v : Value) (w : World) (hv : IsB w v l) :
    Calls Try.prog 61 #[v] w fun e w' => ∃ v, e = .returned v ∧ v = .tuple #[.int .u64 (takev l).1, .int .i64 (takev l).2.1, .int .i64 (takev l).2.2] ∧ w' = w := by
  obtain ⟨A, c, rfl, hc, hc2, HR⟩ := hv
  refine enter (l := [_]) 43 Try.func61 rfl rfl (by simp) ?_
  refine w_sreg (wl_v (aI rfl) <| wl_v (aI rfl) <| wl_v (aI rfl) <| wl_end ?_)
  refine w_scope 0 (fun k f w' => ∃ (i acc : Nat), f 0 = .slice A l.length c ∧ f 5 = .int .u64 (acc : Int) ∧ f 6 = .int .i64 (i : Int) ∧ k = l.length - i ∧ w' = w ∧ i ≤ 9 ∧ i ≤ l.length ∧ acc < 128 ^ i ∧ takeGo (l.drop i) i acc = takev l) rfl ?_ ?_
  · rintro k f w' ⟨i, acc, h0, h5, h6, rfl, rfl, hi, hil, hacc, hgo⟩
    obtain ⟨f, rfl⟩ := xp3 h0 h5 h6
    refine w_seq ?_
    refine w_sreg (wl_v (mI rfl) <| wl_v (mS rfl) <| wl_v (ex_len Try.underlying23 rfl) <| wl_v (ex_eql rfl rfl) <| wl_end ?_)
    refine w_ifp rfl (fun h2 => ?_) (fun h2 => ?_)
    · refine w_sreg (wl_v (aI rfl) <| wl_v (aI rfl) <| wl_v (aI rfl) <| wl_end ?_)
      refine w_ret (ret_then (ret_jump (end3 rfl ⟨_, rfl, ?_, rfl⟩)))
      rw [← hgo, List.drop_eq_nil_of_le (by omega)]; rfl
    refine w_skip (then_k ?_)
    have hlt : i < l.length := by omega
    obtain ⟨ad, rfl, hcell⟩ := rdB HR hlt
    have hb := l[i].toNat_lt
    have hgo' : takev l = if i = 9 ∧ 1 < l[i].toNat then (0, 0, 11) else if 127 < l[i].toNat then takeGo (l.drop (i + 1)) (i + 1) (acc + l[i].toNat % 128 * 128 ^ i) else if l[i].toNat = 0 ∧ 0 < i then (0, 0, 11) else (acc + l[i].toNat % 128 * 128 ^ i, i + 1, 0) := by
      rw [← hgo, List.drop_eq_getElem_cons hlt, takeGo]
    clear hgo
    generalize l[i].toNat = b at *
    refine w_sreg (wl_v (mS rfl) <| wl_v (mI rfl) <| wl_v (ex_idx1 Try.underlying23 inf5 rfl rfl rfl (by omega)) <| wl_v (ex_load1 Try.underlying5 rfl hcell) <| wl_v (aI rfl) <| wl_end ?_)
    refine w_seq ?_
    refine w_sreg (wl_v (mI rfl) <| wl_v (ex_eql rfl rfl) <| wl_v (mB rfl) <| wl_and 2 2 [19, 20] rfl rfl rfl rfl (fun hp => wl_gy rfl (congrArg Value.bool hp) <| wl_v (mI rfl) <| wl_gy rfl (congrArg Value.bool hp) <| wl_v (ex_gtr rfl rfl) <| wl_nil (amp_end (ag2 rfl rfl) rfl rfl)) fun _ => wl_end ?_)
    refine w_ifa rfl (fun h2 => ?_) (fun h2 => ?_)
    · refine w_sreg (wl_v (aI rfl) <| wl_v (aI rfl) <| wl_v (aI rfl) <| wl_end ?_)
      refine w_ret (ret_then (ret_jump (end3 rfl ⟨_, rfl, ?_, rfl⟩)))
      rw [hgo', if_pos (by omega)]; rfl
    refine w_skip (then_k ?_)
    have h2 : ¬ (i = 9 ∧ 1 < b) := by omega
    have hacc2 := take_or hb hi h2 hacc
    refine w_sreg (wl_v (mI rfl) <| wl_v (mI rfl) <| wl_v (ex_and rfl rfl) <| wl_v (ex_conv Try.underlying5 Try.underlying71 rfl) <| wl_v (mI rfl) <| wl_v (ex_mul64 rfl rfl (by omega) (by omega)) <| wl_v (ex_conv_id Try.underlying3 Try.underlying101 rfl (wrapu64_id (by omega) (by omega))) <|
      wl_v (ex_shl rfl rfl (by omega)) <| wl_v (ex_eq (ex_or rfl rfl) (take_or' hacc2 hi)) <| wl_v (aI rfl) <| wl_end ?_)
    refine w_sreg (wl_v (mI rfl) <| wl_v (ex_add64 rfl rfl (by omega) (by omega)) <| wl_v (aI rfl) <| wl_end ?_)
    refine w_seq ?_
    refine w_sreg (wl_v (mI rfl) <| wl_v (ex_gtr rfl rfl) <| wl_end ?_)
    refine w_ifp rfl (fun h3 => ?_) (fun h3 => ?_)
    · refine w_goto (goto_then (goto_jump (l.length - (i + 1)) (by omega) ⟨i + 1, _, rfl, rfl, rfl, rfl, rfl, by omega, by omega, ?_, ?_⟩))
      · rw [Nat.pow_succ]
        have := Nat.mul_le_mul_right (128 ^ i) (show b % 128 ≤ 127 by omega)
        omega
      · rw [hgo', if_neg h2, if_pos (by omega)]
    refine w_skip (then_k ?_)
    refine w_seq ?_
    refine w_sreg (wl_v (mI rfl) <| wl_v (ex_eql rfl rfl) <| wl_v (mB rfl) <| wl_and 2 2 [38, 39] rfl rfl rfl rfl (fun hp => wl_gy rfl (congrArg Value.bool hp) <| wl_v (mI rfl) <| wl_gy rfl (congrArg Value.bool hp) <| wl_v (ex_gtr rfl rfl) <| wl_nil (amp_end (ag2 rfl rfl) rfl rfl)) fun _ => wl_end ?_)
    refine w_ifa rfl (fun h4 => ?_) (fun h4 => ?_)
    · refine w_sreg (wl_v (aI rfl) <| wl_v (aI rfl) <| wl_v (aI rfl) <| wl_end ?_)
      refine w_ret (ret_then (ret_jump (end3 rfl ⟨_, rfl, ?_, rfl⟩)))
      rw [hgo', if_neg h2, if_neg (by omega), if_pos (by omega)]; rfl
    refine w_skip (then_k ?_)
    refine w_sreg (wl_v (mI rfl) <| wl_v (mI rfl) <| wl_v (aI rfl) <| wl_v (aI rfl) <| wl_v (aI rfl) <| wl_end ?_)
    refine w_ret (ret_jump (end3 rfl ⟨_, rfl, ?_, rfl⟩))
    rw [hgo', if_neg h2, if_neg (by omega), if_neg (by omega)]; rfl
  · intro hr
    refine w_sreg (wl_v (aI rfl) <| wl_end ?_)
    refine w_sreg (wl_v (aI rfl) <| wl_end ?_)
    refine w_seq ?_
    refine w_label (then_k ?_)
    exact hr _ _ _ ⟨0, 0, rfl, rfl, rfl, rfl, rfl, by omega, by omega, by simp, rfl⟩
end Go.Proofs.Ytcceeigkgklkoaa
